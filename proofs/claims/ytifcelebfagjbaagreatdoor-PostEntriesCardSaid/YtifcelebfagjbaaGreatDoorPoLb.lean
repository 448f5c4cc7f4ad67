/-
  Layer 37 (post): the law PostEntries: for valid accounts and a charge with at most 12 lines, Entry returns the entry of the reference, or its error.
-/
import Derived.Test.YtifcelebfagjbaaGreatDoorPoSz
import Derived.Test.YtifcelebfagjbaaGreatDoorPoRu
namespace Go.Tw.Po
open Go.RowKit Go.Tw Go.Proofs.YtifcelebfagjbaaGreatDoor
theorem avoidSI {S : Nat → Prop} {w : World} {v : Value} {l : List SI} {g : Nat} {t : TypeId} (h : SlIs tSI S w v l) (hg : w.heap[g]? = some (.cells #[.string ⟨#[]⟩, .int .i64 0, .slice none 0 0] t (0, 0))) (hl : ∀ p ∈ l, p.s.size ≠ 0) : SlIs tSI (fun k => S k ∧ k ≠ g) w v l := by
  obtain ⟨ao, cap, b, off, hv, h1, h2, h3, h4⟩ := h
  refine ⟨ao, cap, b, off, hv, h1, h2, h3, fun k hk => ?_⟩
  obtain ⟨g1, g2, g3, cs, g4, g5⟩ := h4 k hk
  obtain ⟨rfl, hok⟩ := tSI_is g5
  refine ⟨g1, ⟨g2, ?_⟩, g3, _, g4, tSI_mk hok⟩
  intro e
  subst e
  have c0 := g4 0 (by decide)
  have c1 := cell_of_row w b (off + k * tSI.sz + 0) _ _ _ hg
  rw [c1] at c0
  have hne := hl _ (List.getElem_mem hk)
  generalize off + k * tSI.sz + 0 = j at c0
  match j with
  | 0 =>
    have : Value.string ⟨#[]⟩ = Value.string l[k].s := by simpa [siCells] using c0
    injection this with this
    rw [← this] at hne
    exact hne rfl
  | 1 => simp [siCells] at c0
  | 2 => simp [siCells] at c0
  | n + 3 => simp [siCells] at c0
theorem entry_ps {c : List Acc} {x : Chg} {old v : Int} : ∀ p ∈ (entryP c x old v).1.ps, p.s.size ≠ 0 := by
  have hz : ∀ p ∈ zeroE.ps, p.s.size ≠ 0 := fun p hp => by cases hp
  unfold entryP
  split
  · exact hz
  split
  · exact hz
  split
  · exact hz
  split
  · exact hz
  rw [move_one]
  intro p hp
  rcases List.mem_cons.1 hp with rfl | hp
  · show (debC c x).size ≠ 0
    unfold debC
    split <;> (rw [ByteArray.size_append]; show _ + _ ≠ 0)
    · show 8 + _ ≠ 0; omega
    · show 5 + _ ≠ 0; omega
  · rw [List.mem_singleton] at hp
    subst hp
    show (creC x).size ≠ 0
    unfold creC
    rw [ByteArray.size_append]
    show 8 + _ ≠ 0
    omega
end Go.Tw.Po
namespace Go.Proofs.YtifcelebfagjbaaGreatDoor
open Go.RowKit Go.Tw Go.Tw.Ord Go.Tw.Po Go.Sort Go.ChangeShapes Go.WideShapes
/-- an entry that a call has answered, in a box of its own -/
structure EE (wB : World) (gy : Nat) (E : Ent) (v : Value) (wx : World) : Prop where
  b : Below wB.heap.size wB wx
  g : wx.heap[gy]? = some (.cells #[.string E.key, .int .i64 E.tm, v] 56 (0, 0))
  s : SlIs tSI (· < wx.heap.size) wx v E.ps
theorem EE.step {wB : World} {gy : Nat} {E : Ent} {v : Value} {wx w' : World} (h : EE wB gy E v wx) (hb : Below wx.heap.size wx w') : EE wB gy E v w' := ⟨bl_trans h.b hb, (hb.block _ (lt_of_heap h.g)).trans h.g, h.s.step hb⟩
theorem EE.mk_alloc {wB w9 : World} {E : Ent} {v : Value} (hb : Below wB.heap.size wB w9) (hs : SlIs tSI (· < w9.heap.size) w9 v E.ps) : EE wB w9.heap.size E v (w9.alloc (.cells #[.string E.key, .int .i64 E.tm, v] 56)) :=
  ⟨bl_alloc hb _, heap_alloc_new _ _, hs.step (bl_alloc (Below.refl _ _) _)⟩
theorem EE.mk_set {wB w9 : World} {gy : Nat} {E : Ent} {v : Value} (hb : Below wB.heap.size wB w9) (hlo : wB.heap.size ≤ gy) (hs : SlIs tSI (· < w9.heap.size) w9 v E.ps) (hp : ∀ p ∈ E.ps, p.s.size ≠ 0) (hg : w9.heap[gy]? = some (.cells #[.string ⟨#[]⟩, .int .i64 0, .slice none 0 0] 56 (0, 0))) :
    EE wB gy E v (((w9.setCell ⟨gy, 0, none⟩ (.string E.key)).setCell ⟨gy, 1, none⟩ (.int .i64 E.tm)).setCell ⟨gy, 2, none⟩ v) := by
  have hoth : ∀ q, q ≠ gy → (((w9.setCell ⟨gy, 0, none⟩ (.string E.key)).setCell ⟨gy, 1, none⟩ (.int .i64 E.tm)).setCell ⟨gy, 2, none⟩ v).heap[q]? = w9.heap[q]? := fun q h => (Below.heap_setCell _ _ _ _ h).trans ((Below.heap_setCell _ _ _ _ h).trans (Below.heap_setCell _ _ _ _ h))
  exact ⟨bl_set (bl_set (bl_set hb _ hlo) _ hlo) _ hlo, heap_setCell_same _ _ _ _ _ _ (heap_setCell_same _ _ _ _ _ _ (heap_setCell_same _ _ _ _ _ _ hg)), (avoidSI hs hg hp).keep (fun q h => by simpa using h.1) (fun q h => hoth q h.2)⟩
set_option maxRecDepth 100000 in
set_option maxHeartbeats 8000000 in
theorem entries_walk : LawWalkL Tryz.prog laidL 3 Tryz.f3 := by
  intro H enc W base args ds ps hval hA hsz hL
  rw [Tryz.params3] at hA hval
  obtain ⟨v0, v1, v2, v3, d0, d1, d2, d3, p0, p1, p2, p3, rfl, rfl, rfl, h0, h1, h2, h3⟩ := trodAll_four hA
  obtain ⟨A, ao, an, ac, c, e0, hA0, hc0, hplt⟩ := arg_cfg (hval 0 _ _ rfl rfl) h0 hsz (j := 0) rfl rfl
  obtain ⟨xs, x, e1, hi⟩ := arg_struct Tryz.underlying49 opensChg (hval 1 _ _ rfl rfl) h1
  obtain ⟨vx, hxs, hxo, hxv⟩ := tChg_is hi
  have hxx : xs = #[.string x.key, .string x.veh, .string x.sys, .int .i64 x.cls, .int .i64 x.tm, vx, .int .i64 x.c] := by
    apply Array.toList_inj.1
    rw [hxs]; rfl
  subst hxx
  obtain ⟨old, e2, hold⟩ := arg_int Tryz.underlying3 (hval 2 _ _ rfl rfl) h2
  obtain ⟨ver, e3, hver⟩ := arg_int Tryz.underlying3 (hval 3 _ _ rfl rfl) h3
  subst e0 e1 e2 e3
  have HF := Lib.hid (fmt_all hL)
  clear hA hval h0 h1 h2 h3 hsz hL hi hxs
  have n0 := alloc2_0 W (.cells A 46) (.cells #[.string x.key, .string x.veh, .string x.sys, .int .i64 x.cls, .int .i64 x.tm, vx, .int .i64 x.c] 49)
  have n1 := alloc2_1 W (.cells A 46) (.cells #[.string x.key, .string x.veh, .string x.sys, .int .i64 x.cls, .int .i64 x.tm, vx, .int .i64 x.c] 49)
  have HB0 := Lib.hid (bl_alloc (bl_alloc (Below.refl W.heap.size W) (.cells A 46)) (.cells #[.string x.key, .string x.veh, .string x.sys, .int .i64 x.cls, .int .i64 x.tm, vx, .int .i64 x.c] 49))
  obtain ⟨xa, xc, _, _, rfl, -⟩ := id hxv
  have HA := Lib.hid hA0
  have HC := Lib.hid hc0
  have HPL := Lib.hid hplt
  have HXO := Lib.hid hxo
  have HXV := Lib.hid hxv
  have HOL := Lib.hid hold
  have HVE := Lib.hid hver
  have HN0 := Lib.hid n0
  have HN1 := Lib.hid n1
  have HRT := Lib.hid (right_any c A (.slice ao an ac) ((W.alloc (.cells A 46)).alloc (.cells #[.string x.key, .string x.veh, .string x.sys, .int .i64 x.cls, .int .i64 x.tm, .slice xa x.ls.length xc, .int .i64 x.c] 49)) hA0 (hc0.step HB0.out) hplt)
  have hld := load_blk n0 hA0.size Tryz.prog
  clear hA0 hc0 hplt hxo hxv hold hver n0 n1
  go_enter Tryz.func3, Tryz.ntmps3
  go_wp2_with (first | (refine wpList_loadA _ rfl 46 rfl Tryz.isAgg46 Tryz.sizeOf46 rfl (by with_reducible assumption) ?_) | fail)
  with_reducible refine HRT.out.mono ?_
  clear HRT hld
  rintro r w1 ⟨⟨b, rfl, hb⟩, hb1⟩
  have HRB := Lib.hid hb
  have HB1 := Lib.hid (bl_trans HB0.out hb1)
  have N0 := Lib.hid ((hb1.block _ (lt_of_heap HN0.out)).trans HN0.out)
  have N1 := Lib.hid ((hb1.block _ (lt_of_heap HN1.out)).trans HN1.out)
  clear hb hb1 HN0 HN1 HB0
  cases b with
  | false =>
    have HAW := Lib.hid (awake_any _ (HF.out.step HB1.out))
    go_wp2_with (fail)
    with_reducible refine HAW.out.mono ?_
    clear HAW
    rintro r wz ⟨rfl, hbz⟩
    have HBZ := Lib.hid (bl_trans HB1.out hbz)
    clear hbz
    go_wp2
    go_ret
    exact ⟨rfl, HBZ.out⟩
  | true =>
  obtain ⟨x0, x1, x2, x3, x4, x5, x6, -⟩ := blk7 N1.out
  have HRK := Lib.hid (HRB.out (by trivial))
  have HB2 := Lib.hid (bl_trans HB1.out (bl_alloc (Below.refl w1.heap.size w1) (.cells #[.string x.key, .string x.veh, .string x.sys, .int .i64 x.cls, .int .i64 x.tm, .slice xa x.ls.length xc, .int .i64 x.c] 49)))
  have HONE := Lib.hid (show SlIs (tChg eL) (· < (w1.alloc (.cells #[.string x.key, .string x.veh, .string x.sys, .int .i64 x.cls, .int .i64 x.tm, .slice xa x.ls.length xc, .int .i64 x.c] 49)).heap.size) (w1.alloc (.cells #[.string x.key, .string x.veh, .string x.sys, .int .i64 x.cls, .int .i64 x.tm, .slice xa x.ls.length xc, .int .i64 x.c] 49)) (.slice (some ⟨w1.heap.size, 0, none⟩) 1 1) [x] from oneChg HXO.out (HXV.out.step HB1.out))
  have HSH := Lib.hid (short_any [x] (.slice (some ⟨w1.heap.size, 0, none⟩) 1 1) _ HONE.out)
  clear HRB HONE
  go_wp2_with (fail)
  with_reducible refine HSH.out.mono ?_
  clear HSH
  rintro r w2 ⟨⟨b, rfl, hb⟩, hb2⟩
  have HSB := Lib.hid hb
  have HBa := Lib.hid (bl_trans HB2.out hb2)
  have HSA := Lib.hid (bl_trans (bl_alloc (Below.refl w1.heap.size w1) (.cells #[.string x.key, .string x.veh, .string x.sys, .int .i64 x.cls, .int .i64 x.tm, .slice xa x.ls.length xc, .int .i64 x.c] 49)) hb2)
  have M0 := Lib.hid ((HSA.out.block _ (lt_of_heap N0.out)).trans N0.out)
  have M1 := Lib.hid ((HSA.out.block _ (lt_of_heap N1.out)).trans N1.out)
  clear hb hb2 HB1 HB2 N0 N1 HSA x0 x1 x2 x3 x4 x5 x6
  cases b with
  | false =>
    have HAW := Lib.hid (awake_any _ (HF.out.step HBa.out))
    go_wp2_with (fail)
    with_reducible refine HAW.out.mono ?_
    clear HAW
    rintro r wz ⟨rfl, hbz⟩
    have HBZ := Lib.hid (bl_trans HBa.out hbz)
    clear hbz
    go_wp2
    go_ret
    exact ⟨rfl, HBZ.out⟩
  | true =>
  have HXC := Lib.hid ((HSB.out (by trivial)).2 x (by simp))
  clear HSB
  have HCG := Lib.hid (fun W' => config_any A ao an ac W' HA.out)
  obtain ⟨⟨E, z⟩, hez⟩ : ∃ r, entryP c x old ver = r := ⟨_, rfl⟩
  have HPS := Lib.hid (show ∀ p ∈ E.ps, p.s.size ≠ 0 from by have := entry_ps (c := c) (x := x) (old := old) (v := ver); rw [hez] at this; exact this)
  have HEZ := Lib.hid hez
  clear hez
  have HLC := Lib.hid (show ∀ w', Below w2.heap.size w2 w' → Sem.run Tryz.prog (loadCellsFrom ⟨W.heap.size, 0, none⟩ 0 25 #[]) w' = .ok A w' from fun w' h => load_blk ((h.block _ (lt_of_heap M0.out)).trans M0.out) HA.out.size _)
  have HLX := Lib.hid (show ∀ w', Below w2.heap.size w2 w' → w'.cell? ⟨W.heap.size + 1, 0, none⟩ = some (.string x.key) ∧ w'.cell? ⟨W.heap.size + 1, 1, none⟩ = some (.string x.veh) ∧ w'.cell? ⟨W.heap.size + 1, 2, none⟩ = some (.string x.sys) ∧ w'.cell? ⟨W.heap.size + 1, 3, none⟩ = some (.int .i64 x.cls) ∧ w'.cell? ⟨W.heap.size + 1, 4, none⟩ = some (.int .i64 x.tm) ∧ w'.cell? ⟨W.heap.size + 1, 5, none⟩ = some (.slice xa x.ls.length xc) ∧ w'.cell? ⟨W.heap.size + 1, 6, none⟩ = some (.int .i64 x.c) from fun w' h => by
    obtain ⟨q0, q1, q2, q3, q4, q5, q6, -⟩ := blk7 ((h.block _ (lt_of_heap M1.out)).trans M1.out)
    exact ⟨q0, q1, q2, q3, q4, q5, q6⟩)
  have HEP := Lib.hid (show ∀ W', Below w2.heap.size w2 W' → Calls Tryz.prog 12 #[.agg (zCfg (.slice ao an ac)), .agg #[.string x.key, .string x.veh, .string x.sys, .int .i64 x.cls, .int .i64 x.tm, .slice xa x.ls.length xc, .int .i64 x.c], .int .i64 old, .int .i64 ver] W' fun r w' => (∃ vp, r = .returned (.tuple #[.agg #[.string E.key, .int .i64 E.tm, vp], .int .i64 z]) ∧ SlIs tSI (· < w'.heap.size) w' vp E.ps) ∧ Below W'.heap.size W' w' from fun W' h => by
    have g := entry_any c (zCfg (.slice ao an ac)) (.slice ao an ac) x (.slice xa x.ls.length xc) old ver W' (zCfgA _) (HC.out.step (bl_trans HBa.out h)) HRK.out.2 HXO.out HXC.out (HXV.out.step (bl_trans HBa.out h)) HOL.out HVE.out (HF.out.step (bl_trans HBa.out h))
    rw [HEZ.out] at g
    exact g)
  have HER := Lib.hid (show ∀ W', Below w2.heap.size w2 W' → Calls Tryz.prog 14 #[.agg (zCfg (.slice ao an ac)), .agg #[.string x.key, .string x.veh, .string x.sys, .int .i64 x.cls, .int .i64 x.tm, .slice xa x.ls.length xc, .int .i64 x.c], .int .i64 old, .int .i64 ver] W' fun r w' => (∃ vp, r = .returned (.tuple #[.agg #[.string E.key, .int .i64 E.tm, vp], .int .i64 z]) ∧ SlIs tSI (· < w'.heap.size) w' vp E.ps) ∧ Below W'.heap.size W' w' from fun W' h => by
    have g := entryR_any c (zCfg (.slice ao an ac)) (.slice ao an ac) x (.slice xa x.ls.length xc) old ver W' (zCfgA _) (HC.out.step (bl_trans HBa.out h)) HRK.out.2 HXO.out HXC.out (HXV.out.step (bl_trans HBa.out h)) HOL.out HVE.out
    rw [HEZ.out] at g
    exact g)
  go_upto_region 3 with (fail)
  have HW := Lib.hid (Below.drew (Below.refl w2.heap.size w2))
  go_cut [9, 10] (fun yv ev wx => ∃ (gy : Nat) (a : Option Addr) (n c : Nat), yv = .pointer (some ⟨gy, 0, none⟩) ∧ ev = .int .i64 z ∧ EE w2 gy E (.slice a n c) wx)
  case first =>
    refine wp_region_D (fun j => if j < 12 then 0 else if j < 12 then 1 else 2) (fun w' => Below w2.heap.size w2 w') (by kernel_rfl) (HW.out) (fun hHeld => ?_)
    refine wpD_take (i := 0) (v := ?_) rfl (by kernel_rfl) (fun _ _ _ h => h) (Or.inl ⟨by kernel_rfl, ?_⟩) (by assumption) ?_
    rotate_left
    focus (intro w9 hS9; refine exec_loadA (t := 46) (x := Operand.tmp 4) (p := ⟨W.heap.size, 0, none⟩) (A := A) ?_ Tryz.isAgg46 Tryz.sizeOf46 ?_ (HLC.out w9 hS9); rfl; rfl)
    (try simp only [List.getElem_toArray, List.getElem_cons_zero])
    (try simp only [Act.put])
    (try simp only [List.setIfInBounds_toArray])
    (repeat (first | simp only [List.set_cons_succ] | simp only [List.set_cons_zero]))
    refine wpD_take (i := 2) (v := ?_) rfl (by kernel_rfl) (fun _ _ _ h => h) (Or.inl ⟨by kernel_rfl, ?_⟩) (by assumption) ?_
    rotate_left
    focus (intro w9 hS9; obtain ⟨q0, q1, q2, q3, q4, q5, q6⟩ := HLX.out w9 hS9; clear hS9; go_simp; (try with_reducible rfl))
    (try simp only [List.getElem_toArray, List.getElem_cons_succ, List.getElem_cons_zero])
    (try simp only [Act.put])
    (try simp only [List.setIfInBounds_toArray])
    (repeat (first | simp only [List.set_cons_succ] | simp only [List.set_cons_zero]))
    refine wpD_take (i := 3) (v := ?_) rfl (by kernel_rfl) (fun _ _ _ h => h) (Or.inl ⟨by kernel_rfl, ?_⟩) (by assumption) ?_
    rotate_left
    focus (intro w9 hS9; clear hS9; go_simp; (try with_reducible rfl))
    (try simp only [List.getElem_toArray, List.getElem_cons_succ, List.getElem_cons_zero])
    (try simp only [Act.put])
    (try simp only [List.setIfInBounds_toArray])
    (repeat (first | simp only [List.set_cons_succ] | simp only [List.set_cons_zero]))
    refine wpD_take (i := 4) (v := ?_) rfl (by kernel_rfl) (fun _ _ _ h => h) (Or.inl ⟨by kernel_rfl, ?_⟩) (by assumption) ?_
    rotate_left
    focus (intro w9 hS9; clear hS9; go_simp; (try with_reducible rfl))
    (try simp only [List.getElem_toArray, List.getElem_cons_succ, List.getElem_cons_zero])
    (try simp only [Act.put])
    (try simp only [List.setIfInBounds_toArray])
    (repeat (first | simp only [List.set_cons_succ] | simp only [List.set_cons_zero]))
    refine wpD_ready (rs := [1, 9]) (by kernel_rfl) (by kernel_rfl) ?_
    refine AllReadyD.cons rfl (fun K hK => ?_) (AllReadyD.cons rfl (fun K hK => ?_) AllReadyD.nil)
    · rw [if_pos (show _ = true by kernel_rfl)]
      go_simp
      with_reducible refine (HCG.out _).mono ?_
      rintro r w7 ⟨rfl, hbv⟩
      have HV := Lib.hid (bl_trans HW.out hbv)
      skip
      clear hbv HW
      have HW := HV
      clear HV
      clear hHeld
      refine hK.out _ _ ⟨fun _ => HW.out, fun h => absurd h (by decide)⟩ (fun hHeld0 => ?_)
      have hHeld := hHeld0.1 rfl
      clear hHeld0 hK K
      refine wpD_ready (rs := [5, 9]) (by kernel_rfl) (by kernel_rfl) ?_
      refine AllReadyD.cons rfl (fun K hK => ?_) (AllReadyD.cons rfl (fun K hK => ?_) AllReadyD.nil)
      · rw [if_pos (show _ = true by kernel_rfl)]
        go_simp
        with_reducible refine (HEP.out _ HW.out).mono ?_
        rintro r w9 ⟨⟨vp, rfl, hvp⟩, hbe⟩
        obtain ⟨a9, n9, c9, hv9⟩ : ∃ a n c, vp = .slice a n c := by
          obtain ⟨a, c, _, _, e, -⟩ := id hvp
          exact ⟨a, _, c, e⟩
        subst hv9
        have HVP := Lib.hid hvp
        have HV := Lib.hid (bl_trans HW.out hbe)
        skip
        clear hbe HW hvp
        have HW := HV
        clear HV
        clear hHeld
        refine hK.out _ _ ⟨fun _ => HW.out, fun h => absurd h (by decide)⟩ (fun hHeld0 => ?_)
        have hHeld := hHeld0.1 rfl
        clear hHeld0 hK K
        refine wpD_take (i := 6) (v := ?_) rfl (by kernel_rfl) (fun _ _ _ h => h) (Or.inl ⟨by kernel_rfl, ?_⟩) (by assumption) ?_
        rotate_left
        focus (intro w9 hS9; clear hS9; go_simp; (try with_reducible rfl))
        (try simp only [List.getElem_toArray, List.getElem_cons_succ, List.getElem_cons_zero])
        (try simp only [Act.put])
        (try simp only [List.setIfInBounds_toArray])
        (repeat (first | simp only [List.set_cons_succ] | simp only [List.set_cons_zero]))
        refine wpD_take (i := 7) (v := ?_) rfl (by kernel_rfl) (fun _ _ _ h => h) (Or.inl ⟨by kernel_rfl, ?_⟩) (by assumption) ?_
        rotate_left
        focus (intro w9 hS9; clear hS9; go_simp; (try with_reducible rfl))
        (try simp only [List.getElem_toArray, List.getElem_cons_succ, List.getElem_cons_zero])
        (try simp only [Act.put])
        (try simp only [List.setIfInBounds_toArray])
        (repeat (first | simp only [List.set_cons_succ] | simp only [List.set_cons_zero]))
        refine wpD_take (i := 8) (v := ?_) rfl (by kernel_rfl) (fun _ _ _ h => h) (Or.inl ⟨by kernel_rfl, ?_⟩) (by assumption) ?_
        rotate_left
        focus (intro w9 hS9; clear hS9; go_simp; (try with_reducible rfl))
        (try simp only [List.getElem_toArray, List.getElem_cons_succ, List.getElem_cons_zero])
        (try simp only [Act.put])
        (try simp only [List.setIfInBounds_toArray])
        (repeat (first | simp only [List.set_cons_succ] | simp only [List.set_cons_zero]))
        refine wpD_ready (rs := [9]) (by kernel_rfl) (by kernel_rfl) ?_
        refine AllReadyD.cons rfl (fun K hK => ?_) AllReadyD.nil
        rw [if_pos (show _ = true by kernel_rfl)]
        go_simp
        clear hHeld
        refine hK.out _ _ ⟨fun _ => bl_alloc HW.out _, fun h => absurd h (by decide)⟩ (fun hHeld0 => ?_)
        have hHeld := hHeld0.1 rfl
        clear hHeld0 hK K
        refine wpD_ready (rs := [10]) (by kernel_rfl) (by kernel_rfl) ?_
        refine AllReadyD.cons rfl (fun K hK => ?_) AllReadyD.nil
        rw [if_pos (show _ = true by kernel_rfl)]
        go_simp
        clear hHeld
        refine hK.out _ _ ⟨fun _ => bl_alloc HW.out _, fun h => absurd h (by decide)⟩ (fun hHeld0 => ?_)
        have hHeld := hHeld0.1 rfl
        clear hHeld0 hK K
        refine wpD_ready (rs := [11]) (by kernel_rfl) (by kernel_rfl) ?_
        refine AllReadyD.cons rfl (fun K hK => ?_) AllReadyD.nil
        rw [if_pos (show _ = true by kernel_rfl)]
        go_simp
        clear hHeld
        refine hK.out _ _ ⟨fun _ => bl_alloc HW.out _, fun h => absurd h (by decide)⟩ (fun hHeld0 => ?_)
        have hHeld := hHeld0.1 rfl
        clear hHeld0 hK K
        refine wpD_done (by kernel_rfl) ?_
        go_wp2_with (fail)
        go_meet
        exact ⟨_, _, _, _, rfl, rfl, EE.mk_alloc HW.out HVP.out⟩
      · rw [if_pos (show _ = true by kernel_rfl)]
        go_simp
        clear hHeld
        refine hK.out _ _ ⟨fun _ => bl_alloc HW.out _, fun h => absurd h (by decide)⟩ (fun hHeld0 => ?_)
        have hHeld := hHeld0.1 rfl
        clear hHeld0 hK K
        have HYB := Lib.hid (heap_alloc_new (w7) (.cells #[.string ⟨#[]⟩, .int .i64 0, .slice none 0 0] 56))
        have HV := Lib.hid (bl_alloc HW.out (.cells #[.string ⟨#[]⟩, .int .i64 0, .slice none 0 0] 56))
        have hgy : w2.heap.size ≤ (w7).heap.size := HW.out.size
        clear HW
        have HW := HV
        clear HV
        generalize (w7).alloc (.cells #[.string ⟨#[]⟩, .int .i64 0, .slice none 0 0] 56) = wy at HYB HW hHeld ⊢
        generalize (w7).heap.size = gy at HYB hgy ⊢
        refine wpD_ready (rs := [5]) (by kernel_rfl) (by kernel_rfl) ?_
        refine AllReadyD.cons rfl (fun K hK => ?_) AllReadyD.nil
        rw [if_pos (show _ = true by kernel_rfl)]
        go_simp
        with_reducible refine (HEP.out _ HW.out).mono ?_
        rintro r w9 ⟨⟨vp, rfl, hvp⟩, hbe⟩
        obtain ⟨a9, n9, c9, hv9⟩ : ∃ a n c, vp = .slice a n c := by
          obtain ⟨a, c, _, _, e, -⟩ := id hvp
          exact ⟨a, _, c, e⟩
        subst hv9
        have HVP := Lib.hid hvp
        have HV := Lib.hid (bl_trans HW.out hbe)
        have HYC := Lib.hid ((hbe.block _ (lt_of_heap HYB.out)).trans HYB.out); clear HYB; have HYB := HYC; clear HYC
        clear hbe HW hvp
        have HW := HV
        clear HV
        clear hHeld
        refine hK.out _ _ ⟨fun _ => HW.out, fun h => absurd h (by decide)⟩ (fun hHeld0 => ?_)
        have hHeld := hHeld0.1 rfl
        clear hHeld0 hK K
        refine wpD_take (i := 6) (v := ?_) rfl (by kernel_rfl) (fun _ _ _ h => h) (Or.inl ⟨by kernel_rfl, ?_⟩) (by assumption) ?_
        rotate_left
        focus (intro w9 hS9; clear hS9; go_simp; (try with_reducible rfl))
        (try simp only [List.getElem_toArray, List.getElem_cons_succ, List.getElem_cons_zero])
        (try simp only [Act.put])
        (try simp only [List.setIfInBounds_toArray])
        (repeat (first | simp only [List.set_cons_succ] | simp only [List.set_cons_zero]))
        refine wpD_take (i := 7) (v := ?_) rfl (by kernel_rfl) (fun _ _ _ h => h) (Or.inl ⟨by kernel_rfl, ?_⟩) (by assumption) ?_
        rotate_left
        focus (intro w9 hS9; clear hS9; go_simp; (try with_reducible rfl))
        (try simp only [List.getElem_toArray, List.getElem_cons_succ, List.getElem_cons_zero])
        (try simp only [Act.put])
        (try simp only [List.setIfInBounds_toArray])
        (repeat (first | simp only [List.set_cons_succ] | simp only [List.set_cons_zero]))
        refine wpD_take (i := 8) (v := ?_) rfl (by kernel_rfl) (fun _ _ _ h => h) (Or.inl ⟨by kernel_rfl, ?_⟩) (by assumption) ?_
        rotate_left
        focus (intro w9 hS9; clear hS9; go_simp; (try with_reducible rfl))
        (try simp only [List.getElem_toArray, List.getElem_cons_succ, List.getElem_cons_zero])
        (try simp only [Act.put])
        (try simp only [List.setIfInBounds_toArray])
        (repeat (first | simp only [List.set_cons_succ] | simp only [List.set_cons_zero]))
        obtain ⟨y0, y1, y2, yf⟩ := blk3 HYB.out
        have hgl := lt_of_heap HYB.out
        refine wpD_ready (rs := [10]) (by kernel_rfl) (by kernel_rfl) ?_
        refine AllReadyD.cons rfl (fun K hK => ?_) AllReadyD.nil
        rw [if_pos (show _ = true by kernel_rfl)]
        go_simp
        clear hHeld
        refine hK.out _ _ ⟨fun _ => bl_set (bl_set (bl_set HW.out _ hgy) _ hgy) _ hgy, fun h => absurd h (by decide)⟩ (fun hHeld0 => ?_)
        have hHeld := hHeld0.1 rfl
        clear hHeld0 hK K
        refine wpD_ready (rs := [11]) (by kernel_rfl) (by kernel_rfl) ?_
        refine AllReadyD.cons rfl (fun K hK => ?_) AllReadyD.nil
        rw [if_pos (show _ = true by kernel_rfl)]
        go_simp
        clear hHeld
        refine hK.out _ _ ⟨fun _ => bl_set (bl_set (bl_set HW.out _ hgy) _ hgy) _ hgy, fun h => absurd h (by decide)⟩ (fun hHeld0 => ?_)
        have hHeld := hHeld0.1 rfl
        clear hHeld0 hK K
        refine wpD_done (by kernel_rfl) ?_
        go_wp2_with (fail)
        go_meet
        exact ⟨_, _, _, _, rfl, rfl, EE.mk_set HW.out hgy HVP.out HPS.out HYB.out⟩
    · rw [if_pos (show _ = true by kernel_rfl)]
      go_simp
      clear hHeld
      refine hK.out _ _ ⟨fun _ => bl_alloc HW.out _, fun h => absurd h (by decide)⟩ (fun hHeld0 => ?_)
      have hHeld := hHeld0.1 rfl
      clear hHeld0 hK K
      have HYB := Lib.hid (show (World.alloc w2 (.cells #[.string ⟨#[]⟩, .int .i64 0, .slice none 0 0] 56)).drew.heap[w2.heap.size]? = _ from heap_alloc_new w2 (.cells #[.string ⟨#[]⟩, .int .i64 0, .slice none 0 0] 56))
      have HV := Lib.hid (Below.drew (bl_alloc (Below.refl w2.heap.size w2) (.cells #[.string ⟨#[]⟩, .int .i64 0, .slice none 0 0] 56)))
      have hgy : w2.heap.size ≤ w2.heap.size := Nat.le_refl _
      clear HW
      have HW := HV
      clear HV
      have hHeld : Below w2.heap.size w2 (World.alloc w2 (.cells #[.string ⟨#[]⟩, .int .i64 0, .slice none 0 0] 56)).drew := HW.out
      generalize (World.alloc w2 (.cells #[.string ⟨#[]⟩, .int .i64 0, .slice none 0 0] 56)).drew = wy at HYB HW hHeld ⊢
      refine wpD_ready (rs := [1]) (by kernel_rfl) (by kernel_rfl) ?_
      refine AllReadyD.cons rfl (fun K hK => ?_) AllReadyD.nil
      rw [if_pos (show _ = true by kernel_rfl)]
      go_simp
      with_reducible refine (HCG.out _).mono ?_
      rintro r w7 ⟨rfl, hbv⟩
      have HV := Lib.hid (bl_trans HW.out hbv)
      have HYC := Lib.hid ((hbv.block _ (lt_of_heap HYB.out)).trans HYB.out); clear HYB; have HYB := HYC; clear HYC
      clear hbv HW
      have HW := HV
      clear HV
      clear hHeld
      refine hK.out _ _ ⟨fun _ => HW.out, fun h => absurd h (by decide)⟩ (fun hHeld0 => ?_)
      have hHeld := hHeld0.1 rfl
      clear hHeld0 hK K
      refine wpD_ready (rs := [5]) (by kernel_rfl) (by kernel_rfl) ?_
      refine AllReadyD.cons rfl (fun K hK => ?_) AllReadyD.nil
      rw [if_pos (show _ = true by kernel_rfl)]
      go_simp
      with_reducible refine (HEP.out _ HW.out).mono ?_
      rintro r w9 ⟨⟨vp, rfl, hvp⟩, hbe⟩
      obtain ⟨a9, n9, c9, hv9⟩ : ∃ a n c, vp = .slice a n c := by
        obtain ⟨a, c, _, _, e, -⟩ := id hvp
        exact ⟨a, _, c, e⟩
      subst hv9
      have HVP := Lib.hid hvp
      have HV := Lib.hid (bl_trans HW.out hbe)
      have HYC := Lib.hid ((hbe.block _ (lt_of_heap HYB.out)).trans HYB.out); clear HYB; have HYB := HYC; clear HYC
      clear hbe HW hvp
      have HW := HV
      clear HV
      clear hHeld
      refine hK.out _ _ ⟨fun _ => HW.out, fun h => absurd h (by decide)⟩ (fun hHeld0 => ?_)
      have hHeld := hHeld0.1 rfl
      clear hHeld0 hK K
      refine wpD_take (i := 6) (v := ?_) rfl (by kernel_rfl) (fun _ _ _ h => h) (Or.inl ⟨by kernel_rfl, ?_⟩) (by assumption) ?_
      rotate_left
      focus (intro w9 hS9; clear hS9; go_simp; (try with_reducible rfl))
      (try simp only [List.getElem_toArray, List.getElem_cons_succ, List.getElem_cons_zero])
      (try simp only [Act.put])
      (try simp only [List.setIfInBounds_toArray])
      (repeat (first | simp only [List.set_cons_succ] | simp only [List.set_cons_zero]))
      refine wpD_take (i := 7) (v := ?_) rfl (by kernel_rfl) (fun _ _ _ h => h) (Or.inl ⟨by kernel_rfl, ?_⟩) (by assumption) ?_
      rotate_left
      focus (intro w9 hS9; clear hS9; go_simp; (try with_reducible rfl))
      (try simp only [List.getElem_toArray, List.getElem_cons_succ, List.getElem_cons_zero])
      (try simp only [Act.put])
      (try simp only [List.setIfInBounds_toArray])
      (repeat (first | simp only [List.set_cons_succ] | simp only [List.set_cons_zero]))
      refine wpD_take (i := 8) (v := ?_) rfl (by kernel_rfl) (fun _ _ _ h => h) (Or.inl ⟨by kernel_rfl, ?_⟩) (by assumption) ?_
      rotate_left
      focus (intro w9 hS9; clear hS9; go_simp; (try with_reducible rfl))
      (try simp only [List.getElem_toArray, List.getElem_cons_succ, List.getElem_cons_zero])
      (try simp only [Act.put])
      (try simp only [List.setIfInBounds_toArray])
      (repeat (first | simp only [List.set_cons_succ] | simp only [List.set_cons_zero]))
      obtain ⟨y0, y1, y2, yf⟩ := blk3 HYB.out
      have hgl := lt_of_heap HYB.out
      refine wpD_ready (rs := [10]) (by kernel_rfl) (by kernel_rfl) ?_
      refine AllReadyD.cons rfl (fun K hK => ?_) AllReadyD.nil
      rw [if_pos (show _ = true by kernel_rfl)]
      go_simp
      clear hHeld
      refine hK.out _ _ ⟨fun _ => bl_set (bl_set (bl_set HW.out _ hgy) _ hgy) _ hgy, fun h => absurd h (by decide)⟩ (fun hHeld0 => ?_)
      have hHeld := hHeld0.1 rfl
      clear hHeld0 hK K
      refine wpD_ready (rs := [11]) (by kernel_rfl) (by kernel_rfl) ?_
      refine AllReadyD.cons rfl (fun K hK => ?_) AllReadyD.nil
      rw [if_pos (show _ = true by kernel_rfl)]
      go_simp
      clear hHeld
      refine hK.out _ _ ⟨fun _ => bl_set (bl_set (bl_set HW.out _ hgy) _ hgy) _ hgy, fun h => absurd h (by decide)⟩ (fun hHeld0 => ?_)
      have hHeld := hHeld0.1 rfl
      clear hHeld0 hK K
      refine wpD_done (by kernel_rfl) ?_
      go_wp2_with (fail)
      go_meet
      exact ⟨_, _, _, _, rfl, rfl, EE.mk_set HW.out hgy HVP.out HPS.out HYB.out⟩
  case rest =>
    obtain ⟨g1, a1, m1, c1, rfl, rfl, he1⟩ := hcut
    have H1 := Lib.hid he1
    clear he1
    have HLC2 := Lib.hid (fun w' (h : Below wc.heap.size wc w') => HLC.out w' (bl_trans H1.out.b h))
    have HLX2 := Lib.hid (fun w' (h : Below wc.heap.size wc w') => HLX.out w' (bl_trans H1.out.b h))
    have HER2 := Lib.hid (fun w' (h : Below wc.heap.size wc w') => HER.out w' (bl_trans H1.out.b h))
    clear HLC HLX HER HEP
    have HLC := HLC2
    have HLX := HLX2
    have HER := HER2
    clear HLC2 HLX2 HER2
    obtain ⟨wd, hwd⟩ : ∃ wd, wd = wc := ⟨_, rfl⟩
    subst hwd
    go_upto_region 4 with (fail)
    have HW := Lib.hid (Below.drew (Below.refl wd.heap.size wd))
    go_cut [11, 12] (fun yv ev wx => ∃ (gy : Nat) (a : Option Addr) (n c : Nat), yv = .pointer (some ⟨gy, 0, none⟩) ∧ ev = .int .i64 z ∧ EE wd gy E (.slice a n c) wx)
    case first =>
      refine wp_region_D (fun j => if j < 12 then 0 else if j < 12 then 1 else 2) (fun w' => Below wd.heap.size wd w') (by kernel_rfl) (HW.out) (fun hHeld => ?_)
      refine wpD_take (i := 0) (v := ?_) rfl (by kernel_rfl) (fun _ _ _ h => h) (Or.inl ⟨by kernel_rfl, ?_⟩) (by assumption) ?_
      rotate_left
      focus (intro w9 hS9; refine exec_loadA (t := 46) (x := Operand.tmp 4) (p := ⟨W.heap.size, 0, none⟩) (A := A) ?_ Tryz.isAgg46 Tryz.sizeOf46 ?_ (HLC.out w9 hS9); rfl; rfl)
      (try simp only [List.getElem_toArray, List.getElem_cons_zero])
      (try simp only [Act.put])
      (try simp only [List.setIfInBounds_toArray])
      (repeat (first | simp only [List.set_cons_succ] | simp only [List.set_cons_zero]))
      refine wpD_take (i := 2) (v := ?_) rfl (by kernel_rfl) (fun _ _ _ h => h) (Or.inl ⟨by kernel_rfl, ?_⟩) (by assumption) ?_
      rotate_left
      focus (intro w9 hS9; obtain ⟨q0, q1, q2, q3, q4, q5, q6⟩ := HLX.out w9 hS9; clear hS9; go_simp; (try with_reducible rfl))
      (try simp only [List.getElem_toArray, List.getElem_cons_succ, List.getElem_cons_zero])
      (try simp only [Act.put])
      (try simp only [List.setIfInBounds_toArray])
      (repeat (first | simp only [List.set_cons_succ] | simp only [List.set_cons_zero]))
      refine wpD_take (i := 3) (v := ?_) rfl (by kernel_rfl) (fun _ _ _ h => h) (Or.inl ⟨by kernel_rfl, ?_⟩) (by assumption) ?_
      rotate_left
      focus (intro w9 hS9; clear hS9; go_simp; (try with_reducible rfl))
      (try simp only [List.getElem_toArray, List.getElem_cons_succ, List.getElem_cons_zero])
      (try simp only [Act.put])
      (try simp only [List.setIfInBounds_toArray])
      (repeat (first | simp only [List.set_cons_succ] | simp only [List.set_cons_zero]))
      refine wpD_take (i := 4) (v := ?_) rfl (by kernel_rfl) (fun _ _ _ h => h) (Or.inl ⟨by kernel_rfl, ?_⟩) (by assumption) ?_
      rotate_left
      focus (intro w9 hS9; clear hS9; go_simp; (try with_reducible rfl))
      (try simp only [List.getElem_toArray, List.getElem_cons_succ, List.getElem_cons_zero])
      (try simp only [Act.put])
      (try simp only [List.setIfInBounds_toArray])
      (repeat (first | simp only [List.set_cons_succ] | simp only [List.set_cons_zero]))
      refine wpD_ready (rs := [1, 9]) (by kernel_rfl) (by kernel_rfl) ?_
      refine AllReadyD.cons rfl (fun K hK => ?_) (AllReadyD.cons rfl (fun K hK => ?_) AllReadyD.nil)
      · rw [if_pos (show _ = true by kernel_rfl)]
        go_simp
        with_reducible refine (HCG.out _).mono ?_
        rintro r w7 ⟨rfl, hbv⟩
        have HV := Lib.hid (bl_trans HW.out hbv)
        skip
        clear hbv HW
        have HW := HV
        clear HV
        clear hHeld
        refine hK.out _ _ ⟨fun _ => HW.out, fun h => absurd h (by decide)⟩ (fun hHeld0 => ?_)
        have hHeld := hHeld0.1 rfl
        clear hHeld0 hK K
        refine wpD_ready (rs := [5, 9]) (by kernel_rfl) (by kernel_rfl) ?_
        refine AllReadyD.cons rfl (fun K hK => ?_) (AllReadyD.cons rfl (fun K hK => ?_) AllReadyD.nil)
        · rw [if_pos (show _ = true by kernel_rfl)]
          go_simp
          with_reducible refine (HER.out _ HW.out).mono ?_
          rintro r w9 ⟨⟨vp, rfl, hvp⟩, hbe⟩
          obtain ⟨a9, n9, c9, hv9⟩ : ∃ a n c, vp = .slice a n c := by
            obtain ⟨a, c, _, _, e, -⟩ := id hvp
            exact ⟨a, _, c, e⟩
          subst hv9
          have HVP := Lib.hid hvp
          have HV := Lib.hid (bl_trans HW.out hbe)
          skip
          clear hbe HW hvp
          have HW := HV
          clear HV
          clear hHeld
          refine hK.out _ _ ⟨fun _ => HW.out, fun h => absurd h (by decide)⟩ (fun hHeld0 => ?_)
          have hHeld := hHeld0.1 rfl
          clear hHeld0 hK K
          refine wpD_take (i := 6) (v := ?_) rfl (by kernel_rfl) (fun _ _ _ h => h) (Or.inl ⟨by kernel_rfl, ?_⟩) (by assumption) ?_
          rotate_left
          focus (intro w9 hS9; clear hS9; go_simp; (try with_reducible rfl))
          (try simp only [List.getElem_toArray, List.getElem_cons_succ, List.getElem_cons_zero])
          (try simp only [Act.put])
          (try simp only [List.setIfInBounds_toArray])
          (repeat (first | simp only [List.set_cons_succ] | simp only [List.set_cons_zero]))
          refine wpD_take (i := 7) (v := ?_) rfl (by kernel_rfl) (fun _ _ _ h => h) (Or.inl ⟨by kernel_rfl, ?_⟩) (by assumption) ?_
          rotate_left
          focus (intro w9 hS9; clear hS9; go_simp; (try with_reducible rfl))
          (try simp only [List.getElem_toArray, List.getElem_cons_succ, List.getElem_cons_zero])
          (try simp only [Act.put])
          (try simp only [List.setIfInBounds_toArray])
          (repeat (first | simp only [List.set_cons_succ] | simp only [List.set_cons_zero]))
          refine wpD_take (i := 8) (v := ?_) rfl (by kernel_rfl) (fun _ _ _ h => h) (Or.inl ⟨by kernel_rfl, ?_⟩) (by assumption) ?_
          rotate_left
          focus (intro w9 hS9; clear hS9; go_simp; (try with_reducible rfl))
          (try simp only [List.getElem_toArray, List.getElem_cons_succ, List.getElem_cons_zero])
          (try simp only [Act.put])
          (try simp only [List.setIfInBounds_toArray])
          (repeat (first | simp only [List.set_cons_succ] | simp only [List.set_cons_zero]))
          refine wpD_ready (rs := [9]) (by kernel_rfl) (by kernel_rfl) ?_
          refine AllReadyD.cons rfl (fun K hK => ?_) AllReadyD.nil
          rw [if_pos (show _ = true by kernel_rfl)]
          go_simp
          clear hHeld
          refine hK.out _ _ ⟨fun _ => bl_alloc HW.out _, fun h => absurd h (by decide)⟩ (fun hHeld0 => ?_)
          have hHeld := hHeld0.1 rfl
          clear hHeld0 hK K
          refine wpD_ready (rs := [10]) (by kernel_rfl) (by kernel_rfl) ?_
          refine AllReadyD.cons rfl (fun K hK => ?_) AllReadyD.nil
          rw [if_pos (show _ = true by kernel_rfl)]
          go_simp
          clear hHeld
          refine hK.out _ _ ⟨fun _ => bl_alloc HW.out _, fun h => absurd h (by decide)⟩ (fun hHeld0 => ?_)
          have hHeld := hHeld0.1 rfl
          clear hHeld0 hK K
          refine wpD_ready (rs := [11]) (by kernel_rfl) (by kernel_rfl) ?_
          refine AllReadyD.cons rfl (fun K hK => ?_) AllReadyD.nil
          rw [if_pos (show _ = true by kernel_rfl)]
          go_simp
          clear hHeld
          refine hK.out _ _ ⟨fun _ => bl_alloc HW.out _, fun h => absurd h (by decide)⟩ (fun hHeld0 => ?_)
          have hHeld := hHeld0.1 rfl
          clear hHeld0 hK K
          refine wpD_done (by kernel_rfl) ?_
          go_wp2_with (fail)
          go_meet
          exact ⟨_, _, _, _, rfl, rfl, EE.mk_alloc HW.out HVP.out⟩
        · rw [if_pos (show _ = true by kernel_rfl)]
          go_simp
          clear hHeld
          refine hK.out _ _ ⟨fun _ => bl_alloc HW.out _, fun h => absurd h (by decide)⟩ (fun hHeld0 => ?_)
          have hHeld := hHeld0.1 rfl
          clear hHeld0 hK K
          have HYB := Lib.hid (heap_alloc_new (w7) (.cells #[.string ⟨#[]⟩, .int .i64 0, .slice none 0 0] 56))
          have HV := Lib.hid (bl_alloc HW.out (.cells #[.string ⟨#[]⟩, .int .i64 0, .slice none 0 0] 56))
          have hgy : wd.heap.size ≤ (w7).heap.size := HW.out.size
          clear HW
          have HW := HV
          clear HV
          generalize (w7).alloc (.cells #[.string ⟨#[]⟩, .int .i64 0, .slice none 0 0] 56) = wy at HYB HW hHeld ⊢
          generalize (w7).heap.size = gy at HYB hgy ⊢
          refine wpD_ready (rs := [5]) (by kernel_rfl) (by kernel_rfl) ?_
          refine AllReadyD.cons rfl (fun K hK => ?_) AllReadyD.nil
          rw [if_pos (show _ = true by kernel_rfl)]
          go_simp
          with_reducible refine (HER.out _ HW.out).mono ?_
          rintro r w9 ⟨⟨vp, rfl, hvp⟩, hbe⟩
          obtain ⟨a9, n9, c9, hv9⟩ : ∃ a n c, vp = .slice a n c := by
            obtain ⟨a, c, _, _, e, -⟩ := id hvp
            exact ⟨a, _, c, e⟩
          subst hv9
          have HVP := Lib.hid hvp
          have HV := Lib.hid (bl_trans HW.out hbe)
          have HYC := Lib.hid ((hbe.block _ (lt_of_heap HYB.out)).trans HYB.out); clear HYB; have HYB := HYC; clear HYC
          clear hbe HW hvp
          have HW := HV
          clear HV
          clear hHeld
          refine hK.out _ _ ⟨fun _ => HW.out, fun h => absurd h (by decide)⟩ (fun hHeld0 => ?_)
          have hHeld := hHeld0.1 rfl
          clear hHeld0 hK K
          refine wpD_take (i := 6) (v := ?_) rfl (by kernel_rfl) (fun _ _ _ h => h) (Or.inl ⟨by kernel_rfl, ?_⟩) (by assumption) ?_
          rotate_left
          focus (intro w9 hS9; clear hS9; go_simp; (try with_reducible rfl))
          (try simp only [List.getElem_toArray, List.getElem_cons_succ, List.getElem_cons_zero])
          (try simp only [Act.put])
          (try simp only [List.setIfInBounds_toArray])
          (repeat (first | simp only [List.set_cons_succ] | simp only [List.set_cons_zero]))
          refine wpD_take (i := 7) (v := ?_) rfl (by kernel_rfl) (fun _ _ _ h => h) (Or.inl ⟨by kernel_rfl, ?_⟩) (by assumption) ?_
          rotate_left
          focus (intro w9 hS9; clear hS9; go_simp; (try with_reducible rfl))
          (try simp only [List.getElem_toArray, List.getElem_cons_succ, List.getElem_cons_zero])
          (try simp only [Act.put])
          (try simp only [List.setIfInBounds_toArray])
          (repeat (first | simp only [List.set_cons_succ] | simp only [List.set_cons_zero]))
          refine wpD_take (i := 8) (v := ?_) rfl (by kernel_rfl) (fun _ _ _ h => h) (Or.inl ⟨by kernel_rfl, ?_⟩) (by assumption) ?_
          rotate_left
          focus (intro w9 hS9; clear hS9; go_simp; (try with_reducible rfl))
          (try simp only [List.getElem_toArray, List.getElem_cons_succ, List.getElem_cons_zero])
          (try simp only [Act.put])
          (try simp only [List.setIfInBounds_toArray])
          (repeat (first | simp only [List.set_cons_succ] | simp only [List.set_cons_zero]))
          obtain ⟨y0, y1, y2, yf⟩ := blk3 HYB.out
          have hgl := lt_of_heap HYB.out
          refine wpD_ready (rs := [10]) (by kernel_rfl) (by kernel_rfl) ?_
          refine AllReadyD.cons rfl (fun K hK => ?_) AllReadyD.nil
          rw [if_pos (show _ = true by kernel_rfl)]
          go_simp
          clear hHeld
          refine hK.out _ _ ⟨fun _ => bl_set (bl_set (bl_set HW.out _ hgy) _ hgy) _ hgy, fun h => absurd h (by decide)⟩ (fun hHeld0 => ?_)
          have hHeld := hHeld0.1 rfl
          clear hHeld0 hK K
          refine wpD_ready (rs := [11]) (by kernel_rfl) (by kernel_rfl) ?_
          refine AllReadyD.cons rfl (fun K hK => ?_) AllReadyD.nil
          rw [if_pos (show _ = true by kernel_rfl)]
          go_simp
          clear hHeld
          refine hK.out _ _ ⟨fun _ => bl_set (bl_set (bl_set HW.out _ hgy) _ hgy) _ hgy, fun h => absurd h (by decide)⟩ (fun hHeld0 => ?_)
          have hHeld := hHeld0.1 rfl
          clear hHeld0 hK K
          refine wpD_done (by kernel_rfl) ?_
          go_wp2_with (fail)
          go_meet
          exact ⟨_, _, _, _, rfl, rfl, EE.mk_set HW.out hgy HVP.out HPS.out HYB.out⟩
      · rw [if_pos (show _ = true by kernel_rfl)]
        go_simp
        clear hHeld
        refine hK.out _ _ ⟨fun _ => bl_alloc HW.out _, fun h => absurd h (by decide)⟩ (fun hHeld0 => ?_)
        have hHeld := hHeld0.1 rfl
        clear hHeld0 hK K
        have HYB := Lib.hid (show (World.alloc wd (.cells #[.string ⟨#[]⟩, .int .i64 0, .slice none 0 0] 56)).drew.heap[wd.heap.size]? = _ from heap_alloc_new wd (.cells #[.string ⟨#[]⟩, .int .i64 0, .slice none 0 0] 56))
        have HV := Lib.hid (Below.drew (bl_alloc (Below.refl wd.heap.size wd) (.cells #[.string ⟨#[]⟩, .int .i64 0, .slice none 0 0] 56)))
        have hgy : wd.heap.size ≤ wd.heap.size := Nat.le_refl _
        clear HW
        have HW := HV
        clear HV
        have hHeld : Below wd.heap.size wd (World.alloc wd (.cells #[.string ⟨#[]⟩, .int .i64 0, .slice none 0 0] 56)).drew := HW.out
        generalize (World.alloc wd (.cells #[.string ⟨#[]⟩, .int .i64 0, .slice none 0 0] 56)).drew = wy at HYB HW hHeld ⊢
        refine wpD_ready (rs := [1]) (by kernel_rfl) (by kernel_rfl) ?_
        refine AllReadyD.cons rfl (fun K hK => ?_) AllReadyD.nil
        rw [if_pos (show _ = true by kernel_rfl)]
        go_simp
        with_reducible refine (HCG.out _).mono ?_
        rintro r w7 ⟨rfl, hbv⟩
        have HV := Lib.hid (bl_trans HW.out hbv)
        have HYC := Lib.hid ((hbv.block _ (lt_of_heap HYB.out)).trans HYB.out); clear HYB; have HYB := HYC; clear HYC
        clear hbv HW
        have HW := HV
        clear HV
        clear hHeld
        refine hK.out _ _ ⟨fun _ => HW.out, fun h => absurd h (by decide)⟩ (fun hHeld0 => ?_)
        have hHeld := hHeld0.1 rfl
        clear hHeld0 hK K
        refine wpD_ready (rs := [5]) (by kernel_rfl) (by kernel_rfl) ?_
        refine AllReadyD.cons rfl (fun K hK => ?_) AllReadyD.nil
        rw [if_pos (show _ = true by kernel_rfl)]
        go_simp
        with_reducible refine (HER.out _ HW.out).mono ?_
        rintro r w9 ⟨⟨vp, rfl, hvp⟩, hbe⟩
        obtain ⟨a9, n9, c9, hv9⟩ : ∃ a n c, vp = .slice a n c := by
          obtain ⟨a, c, _, _, e, -⟩ := id hvp
          exact ⟨a, _, c, e⟩
        subst hv9
        have HVP := Lib.hid hvp
        have HV := Lib.hid (bl_trans HW.out hbe)
        have HYC := Lib.hid ((hbe.block _ (lt_of_heap HYB.out)).trans HYB.out); clear HYB; have HYB := HYC; clear HYC
        clear hbe HW hvp
        have HW := HV
        clear HV
        clear hHeld
        refine hK.out _ _ ⟨fun _ => HW.out, fun h => absurd h (by decide)⟩ (fun hHeld0 => ?_)
        have hHeld := hHeld0.1 rfl
        clear hHeld0 hK K
        refine wpD_take (i := 6) (v := ?_) rfl (by kernel_rfl) (fun _ _ _ h => h) (Or.inl ⟨by kernel_rfl, ?_⟩) (by assumption) ?_
        rotate_left
        focus (intro w9 hS9; clear hS9; go_simp; (try with_reducible rfl))
        (try simp only [List.getElem_toArray, List.getElem_cons_succ, List.getElem_cons_zero])
        (try simp only [Act.put])
        (try simp only [List.setIfInBounds_toArray])
        (repeat (first | simp only [List.set_cons_succ] | simp only [List.set_cons_zero]))
        refine wpD_take (i := 7) (v := ?_) rfl (by kernel_rfl) (fun _ _ _ h => h) (Or.inl ⟨by kernel_rfl, ?_⟩) (by assumption) ?_
        rotate_left
        focus (intro w9 hS9; clear hS9; go_simp; (try with_reducible rfl))
        (try simp only [List.getElem_toArray, List.getElem_cons_succ, List.getElem_cons_zero])
        (try simp only [Act.put])
        (try simp only [List.setIfInBounds_toArray])
        (repeat (first | simp only [List.set_cons_succ] | simp only [List.set_cons_zero]))
        refine wpD_take (i := 8) (v := ?_) rfl (by kernel_rfl) (fun _ _ _ h => h) (Or.inl ⟨by kernel_rfl, ?_⟩) (by assumption) ?_
        rotate_left
        focus (intro w9 hS9; clear hS9; go_simp; (try with_reducible rfl))
        (try simp only [List.getElem_toArray, List.getElem_cons_succ, List.getElem_cons_zero])
        (try simp only [Act.put])
        (try simp only [List.setIfInBounds_toArray])
        (repeat (first | simp only [List.set_cons_succ] | simp only [List.set_cons_zero]))
        obtain ⟨y0, y1, y2, yf⟩ := blk3 HYB.out
        have hgl := lt_of_heap HYB.out
        refine wpD_ready (rs := [10]) (by kernel_rfl) (by kernel_rfl) ?_
        refine AllReadyD.cons rfl (fun K hK => ?_) AllReadyD.nil
        rw [if_pos (show _ = true by kernel_rfl)]
        go_simp
        clear hHeld
        refine hK.out _ _ ⟨fun _ => bl_set (bl_set (bl_set HW.out _ hgy) _ hgy) _ hgy, fun h => absurd h (by decide)⟩ (fun hHeld0 => ?_)
        have hHeld := hHeld0.1 rfl
        clear hHeld0 hK K
        refine wpD_ready (rs := [11]) (by kernel_rfl) (by kernel_rfl) ?_
        refine AllReadyD.cons rfl (fun K hK => ?_) AllReadyD.nil
        rw [if_pos (show _ = true by kernel_rfl)]
        go_simp
        clear hHeld
        refine hK.out _ _ ⟨fun _ => bl_set (bl_set (bl_set HW.out _ hgy) _ hgy) _ hgy, fun h => absurd h (by decide)⟩ (fun hHeld0 => ?_)
        have hHeld := hHeld0.1 rfl
        clear hHeld0 hK K
        refine wpD_done (by kernel_rfl) ?_
        go_wp2_with (fail)
        go_meet
        exact ⟨_, _, _, _, rfl, rfl, EE.mk_set HW.out hgy HVP.out HPS.out HYB.out⟩
    case rest =>
      obtain ⟨g2, a2, m2, c2, rfl, rfl, he2⟩ := hcut
      have H2 := Lib.hid he2
      have H3 := Lib.hid (H1.out.step he2.b)
      clear he2 HLC HLX HER HCG
      obtain ⟨x0, x1, x2, -⟩ := blk3 H3.out.g
      obtain ⟨y0, y1, y2, -⟩ := blk3 H2.out.g
      have HOE := Lib.hid (one_any E (.slice a1 m1 c1) (.slice a2 m2 c2) wc H3.out.s H2.out.s)
      have HBc := Lib.hid (bl_trans HBa.out H3.out.b)
      go_wp2_with (fail)
      with_reducible refine HOE.out.mono ?_
      clear HOE
      rintro r w5 ⟨rfl, hb5⟩
      have HBd := Lib.hid (bl_trans HBc.out hb5)
      clear hb5
      have HAW := Lib.hid (awake_any _ (HF.out.step HBd.out))
      go_wp2_with (fail)
      with_reducible refine HAW.out.mono ?_
      clear HAW
      rintro r wz ⟨rfl, hbz⟩
      have HBZ := Lib.hid (bl_trans HBd.out hbz)
      clear hbz
      go_wp2
      go_ret
      exact ⟨rfl, HBZ.out⟩
end Go.Proofs.YtifcelebfagjbaaGreatDoor
