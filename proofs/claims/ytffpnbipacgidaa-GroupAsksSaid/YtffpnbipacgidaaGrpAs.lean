/-
  Layer 14 (group): the law GroupAsks.
-/
import Derived.Test.YtffpnbipacgidaaGrpLp
import Derived.Test.YtffpnbipacgidaaGrpTo
import Derived.Test.YtffpnbipacgidaaGrpSp
import Derived.Test.YtffpnbipacgidaaGrpArg
namespace Go.Proofs.Ytffpnbipacgidaa
open Go.RowKit Go.Tw Go.Tw.Ord Go.Tw.Grp Go.Sort Go.ChangeShapes Go.WideShapes
theorem trodAll_four {H : Type} {enc : TypeId × Value → H} {P : Program} {w : World} {base : Nat} {spare : Nat → Bool} {held : Bool} {t t' t'' t3 : TypeId} {args : Array Value} {ds : List (DataW H)} {ps : List MemPlace} (h : DataW.TrodAll enc P w base spare held [t, t', t'', t3] args.toList ds ps) :
    ∃ v v' v'' v3 d d' d'' d3 p p' p'' p3, args = #[v, v', v'', v3] ∧ ds = [d, d', d'', d3] ∧ ps = p ++ p' ++ p'' ++ p3 ∧ DataW.Trod enc P w base spare held t v d p ∧ DataW.Trod enc P w base spare held t' v' d' p' ∧ DataW.Trod enc P w base spare held t'' v'' d'' p'' ∧ DataW.Trod enc P w base spare held t3 v3 d3 p3 := by
  obtain ⟨v, vs, d, ds', p, q, hargs, rfl, rfl, hd, hrest⟩ := trodAll_cons h
  obtain ⟨v', vs', d', ds'', p', q', rfl, rfl, rfl, hd', hrest'⟩ := trodAll_cons hrest
  obtain ⟨v'', vs'', d'', ds''', p'', q'', rfl, rfl, rfl, hd'', hrest''⟩ := trodAll_cons hrest'
  obtain ⟨v3, vs3, d3, ds4, p3, q3, rfl, rfl, rfl, hd3, hrest3⟩ := trodAll_cons hrest''
  obtain ⟨rfl, rfl, rfl⟩ := trodAll_nil hrest3
  exact ⟨v, v', v'', v3, d, d', d'', d3, p, p', p'', p3, by cases args; simp_all, rfl, by simp, hd, hd', hd'', hd3⟩
theorem exec_binA {P : Program} {o : Oper} {a : Act} {w : World} {op : BinOp} {t t2 : TypeId} {x y : Operand} {xs ys : Array Value} {r : Value} (ho : o.op = .binOp op t x y t2) (hg : P.eqGuardType P.depth t = false) (hx : a.eval x = .agg xs) (hy : a.eval y = .agg ys)
    (hr : ∀ w, (binOp op t (.agg xs) (.agg ys)).run P w = .ok r w) : (execOp a.eval o).run P w = .ok (.value r) w := by
  unfold execOp
  simp only [ho, hx, hy, Sem.run_bind, run_eqGuard_agg _ _ _ _ _ _ _ hg, Result.andThen_ok, hr, Sem.run_pure]
theorem run_iv2 (p q : Int) (w : World) : (binOp .eql 46 (.agg #[.int .i64 p, .int .i64 q]) (.agg #[.int .i64 p, .int .i64 q])).run Try.prog w = .ok (.bool true) w := by
  have u3 := Try.underlying3
  have a3 := Try.isAgg3
  have z3 := Try.sizeOf3
  rw [run_eql_struct, show (10000 : Nat) = 9999 + 1 from rfl, run_equalIn_agg w 9999 46 _ _ (by kernel_rfl) (by kernel_rfl)]
  simp only [Program.fieldsOf, Try.underlying46]
  go_simp
set_option maxRecDepth 100000 in
set_option maxHeartbeats 4000000 in
theorem asks_walk : LawWalk Try.prog 9 Try.f9 := by
  intro H enc W base args ds ps hval hA hsz
  rw [Try.params9] at hA hval
  obtain ⟨v0, v1, v2, v3, d0, d1, d2, d3, p0, p1, p2, p3, rfl, rfl, rfl, h0, h1, h2, h3⟩ := trodAll_four hA
  clear hA
  have hv1 := hval 1 31 v1 rfl rfl
  obtain ⟨l, hl⟩ := arg_slice Try.underlying22 (opensSeens (e := 31)) (hval 0 _ _ rfl rfl) h0
  obtain ⟨s, A, rfl, hA, hsok⟩ := arg_seenA hv1 h1
  obtain ⟨g, rfl, hg⟩ := arg_int Try.underlying3 (hval 2 _ _ rfl rfl) h2
  obtain ⟨kd, rfl, hkd⟩ := arg_int Try.underlying3 (hval 3 _ _ rfl rfl) h3
  clear hval h0 h1 h2 h3 hsz hv1
  have n0 : SBox (W.alloc (.cells A 31)) W.heap.size s := by rw [← hA]; exact heap_alloc_new _ _
  obtain ⟨ao, cp, b, o, rfl, q1, q2, -⟩ := seen_row hl
  unfold maxLen at q2
  have HA := Lib.hid hA
  have HX := Lib.hid n0
  have HOK := Lib.hid hsok
  have HLL := Lib.hid hl
  have HG := Lib.hid hg
  have hasz : A.size = 11 := by rw [← hA]; rfl
  have h1c := oneA hA
  clear hl hg hsok hA n0 hkd
  go_enter Try.func9, Try.ntmps9
  by_cases hmost : (l.length : Int) > 40
  · go_wp2_with (fail)
    go_ret
    exact ⟨rfl, bl_alloc (Below.refl _ _) _⟩
  have HL40 := Lib.hid (show l.length ≤ 40 by omega)
  go_upto_region 3 with (fail)
  have HB0 := Lib.hid (bl_alloc (Below.refl W.heap.size W) (.cells A 31))
  obtain ⟨bx, hbx⟩ : ∃ b, W.heap.size = b := ⟨_, rfl⟩
  have HBX := Lib.hid hbx
  generalize W.alloc (.cells A 31) = w0 at HX HB0 ⊢
  rw [hbx] at HX ⊢
  clear hbx
  go_upto_region 4 with (first
    | (go_at_call 22
       with_reducible refine (lanes_any l (.slice ao l.length cp) w0 (SlIs.step HLL.out HB0.out) (by have := HL40.out; omega)).mono ?_
       rintro e w1 ⟨⟨v1, rfl, O, ho1, hs1⟩, hb1⟩
       obtain ⟨a1, c1, _, _, rfl, -⟩ := id ho1
       have HO1 := Lib.hid ho1
       have HS1 := Lib.hid hs1
       have HB1 := Lib.hid hb1
       have HBW1 := Lib.hid (HB0.out.trans (hb1.mono HB0.out.size))
       clear ho1 hs1 hb1)
    | (go_at_call 23
       with_reducible refine (lanesR_any l (.slice ao l.length cp) w1 (SlIs.step HLL.out HBW1.out) (by have := HL40.out; omega)).mono ?_
       rintro e w2 ⟨⟨v2, rfl, O2, ho2, hs2⟩, hb2⟩
       obtain rfl : O2 = O := hs2.uniq HS1.out
       obtain ⟨a2, c2, _, _, rfl, -⟩ := id ho2
       have HO2 := Lib.hid ho2
       have HO1 := Lib.hid (SlIs.step HO1.out hb2)
       have HB2 := Lib.hid (bl_trans HB1.out hb2)
       have HB12 := Lib.hid hb2
       clear ho2 hs2 hb2))
  obtain ⟨ax, cx, bx1, ox1, hvx, x1, x2, hxo⟩ := ints_open HO1.out
  injection hvx with e1 _ e3
  subst e1
  subst e3
  obtain ⟨ay, cy, by1, oy1, hvy, y1, y2, hyo⟩ := ints_open HO2.out
  injection hvy with e1 _ e3
  subst e1
  subst e3
  unfold maxLen at x2 y2
  have HXO := Lib.hid hxo
  have HYO := Lib.hid hyo
  have hnn : ((O2.length : Int) != (O2.length : Int)) = false := by simp
  clear hxo hyo
  go_wp2_with (fail)
  go_loopg [11] O2.length (fun gx i wr => ∃ j : Nat, j + gx = O2.length ∧ i = .int .i64 j ∧ GrB w2 wr)
  case atStart => exact ⟨0, by omega, rfl, GrB.refl _⟩
  case round =>
    obtain ⟨wj, rfl⟩ : ∃ wj : World, wj = wr := ⟨_, rfl⟩
    obtain ⟨j, hj, rfl, hg⟩ := hrel
    have HGJ := Lib.hid hg
    by_cases hjl : j < O2.length
    · obtain ⟨rfl, hbx, hcx, -⟩ := HXO.out wj hg.below j hjl
      obtain ⟨rfl, hby, hcy, -⟩ := HYO.out wj hg.below j hjl
      generalize O2[j] = z at hcx hcy
      have g1 := fun n os => cell_grown (w := wj) (a := ⟨bx1, ox1 + j, none⟩) (Nat.lt_of_lt_of_le hbx hg.below.size) hcx n os
      have g2 := fun n os => cell_grown (w := wj) (a := ⟨by1, oy1 + j, none⟩) (Nat.lt_of_lt_of_le hby hg.below.size) hcy n os
      have j0 : (0 : Int) ≤ (j : Int) := by omega
      have j1 : (j : Int) < (O2.length : Int) := by omega
      have hzz : (z != z) = false := by simp
      clear hcx hcy hg
      go_upto_region 9 with (fail)
      refine QW.regionG (by kernel_rfl) (by kernel_rfl) ?_
      (iterate 9 (refine QW.yes (by kernel_rfl) (fun K hK => ?_)
                  go_simp
                  (with_reducible refine hK _ ?_)
                  clear hK K))
      refine QW.nil ?_
      intro _ hw'
      obtain ⟨⟨nq, osq⟩, hw''⟩ := hw'
      subst hw''
      have HGQ := Lib.hid (show GrB wj (grow (wj.drewN nq) osq) from ⟨nq, osq, rfl⟩)
      clear g1 g2
      generalize grow (wj.drewN nq) osq = wq at HGQ ⊢
      go_wp2_with (fail)
      go_roundg (O2.length - (j + 1))
      case measure => omega
      case rel => exact ⟨j + 1, by omega, by go_num, HGJ.out.trans HGQ.out⟩
    · have hkl : ¬ (j : Int) < (O2.length : Int) := by omega
      clear hg
      go_upto_region 11 with (fail)
      have HBJ := Lib.hid (show Below W.heap.size W wj from HBW1.out.trans ((bl_trans (show Below w1.heap.size w1 w2 from HB12.out) HGJ.out.below).mono HBW1.out.size))
      have HB0J := Lib.hid (show Below w0.heap.size w0 wj from bl_trans HB2.out HGJ.out.below)
      obtain ⟨p, hp⟩ : ∃ p, (spanC l).1 = p := ⟨_, rfl⟩
      obtain ⟨q, hq⟩ : ∃ q, (spanC l).2 = q := ⟨_, rfl⟩
      obtain ⟨tc, htc⟩ : ∃ c, (l.any fun x => closeC g x s) = c := ⟨_, rfl⟩
      obtain ⟨F, hF⟩ : ∃ F, (l.filter fun x => x.kd == kd) = F := ⟨_, rfl⟩
      have HSP := Lib.hid (fun (w : World) (h : SlIs tSeen (· < w.heap.size) w (.slice ao l.length cp) l) => span_any l _ w h)
      have HSQ := Lib.hid (fun (w : World) (h : SlIs tSeen (· < w.heap.size) w (.slice ao l.length cp) l) => spanR_any l _ w h)
      have HTO := Lib.hid (fun (w : World) (h : SlIs tSeen (· < w.heap.size) w (.slice ao l.length cp) l) => touch_any l s g _ w h HOK.out HG.out)
      have HTQ := Lib.hid (fun (w : World) (h : SlIs tSeen (· < w.heap.size) w (.slice ao l.length cp) l) => touchR_any l s g _ w h HOK.out HG.out)
      have HOF := Lib.hid (fun (w : World) (h : SlIs tSeen (· < w.heap.size) w (.slice ao l.length cp) l) => of_any l kd _ w h (by have := HL40.out; omega))
      have HOQ := Lib.hid (fun (w : World) (h : SlIs tSeen (· < w.heap.size) w (.slice ao l.length cp) l) => ofR_any l kd _ w h (by have := HL40.out; omega))
      rw [hp, hq] at HSP HSQ
      rw [htc, HA.out] at HTO HTQ
      rw [hF] at HOF HOQ
      have LD := Lib.hid (show ∀ w', Below wj.heap.size wj w' → Sem.run Try.prog (loadCellsFrom ⟨bx, 0, none⟩ 0 11 #[]) w' = .ok A w' from fun w' hw => by
        rw [← HA.out]
        exact (HX.out.step (bl_trans HB0J.out hw)).load)
      have HLJ := Lib.hid (fun w' (hw : Below wj.heap.size wj w') => SlIs.step HLL.out (HBJ.out.trans (hw.mono HBJ.out.size)))
      have HIV := Lib.hid (fun w => run_iv2 p q w)
      have htt : (tc == tc) = true := by simp
      clear hp hq htc hF HXO HYO HO1 HO2 HS1 hnn HX HLL
      refine wp_region_E 28 (fun w' => Below wj.heap.size wj w') (by kernel_rfl) ((by (repeat (first | (with_reducible exact Below.refl _ _) | (with_reducible apply bl_drewN) | (with_reducible apply bl_alloc) | (with_reducible apply Below.drew))); done)) (fun hHeld => ?_)
      refine wpE_take (i := 0) (v := ?_) rfl (by kernel_rfl) (fun _ _ _ h => h) (Or.inl ⟨by kernel_rfl, ?_⟩) (by assumption) ?_
      rotate_left
      focus (intro w9 hS9; (try dsimp only at hS9); go_simp; (try with_reducible rfl))
      (try simp only [List.getElem_toArray, List.getElem_cons_succ, List.getElem_cons_zero])
      (try simp only [Act.put])
      (try simp only [List.setIfInBounds_toArray])
      (repeat (first | simp only [List.set_cons_succ] | simp only [List.set_cons_zero]))
      refine wpE_take (i := 2) (v := ?_) rfl (by kernel_rfl) (fun _ _ _ h => h) (Or.inl ⟨by kernel_rfl, ?_⟩) (by assumption) ?_
      rotate_left
      focus (intro w9 hS9; (try dsimp only at hS9); go_simp; (try with_reducible rfl))
      (try simp only [List.getElem_toArray, List.getElem_cons_succ, List.getElem_cons_zero])
      (try simp only [Act.put])
      (try simp only [List.setIfInBounds_toArray])
      (repeat (first | simp only [List.set_cons_succ] | simp only [List.set_cons_zero]))
      refine wpE_ready (rs := [1]) (by kernel_rfl) (by kernel_rfl) ?_
      refine AllReadyE.cons rfl (fun K hK => ?_) AllReadyE.nil
      rw [if_pos (show _ = true by kernel_rfl)]
      go_simp
      go_wp2_with (go_at_call 24
                   refine (HSP.out _ (HLJ.out _ (by (repeat (first | (with_reducible exact Below.refl _ _) | (with_reducible apply bl_drewN) | (with_reducible apply bl_alloc) | (with_reducible apply Below.drew))); done))).mono ?_
                   rintro e w4 ⟨rfl, hb4⟩
                   have HB4 := Lib.hid (show Below wj.heap.size wj w4 from bl_trans (by (repeat (first | (with_reducible exact Below.refl _ _) | (with_reducible apply bl_drewN) | (with_reducible apply bl_alloc) | (with_reducible apply Below.drew))); done) hb4)
                   clear hb4)
      clear hHeld
      refine hK.out _ _ (HB4.out) (fun hHeld => ?_)
      clear hK K
      refine wpE_ready (rs := [3]) (by kernel_rfl) (by kernel_rfl) ?_
      refine AllReadyE.cons rfl (fun K hK => ?_) AllReadyE.nil
      rw [if_pos (show _ = true by kernel_rfl)]
      go_simp
      go_wp2_with (go_at_call 25
                   refine (HSQ.out _ (HLJ.out _ HB4.out)).mono ?_
                   rintro e w5 ⟨rfl, hb5⟩
                   have HB5 := Lib.hid (bl_trans HB4.out hb5)
                   clear hb5)
      clear hHeld
      refine hK.out _ _ (HB5.out) (fun hHeld => ?_)
      clear hK K
      refine wpE_take (i := 4) (v := Value.bool true) rfl (by kernel_rfl) (fun _ _ _ h => h) (Or.inl ⟨by kernel_rfl, ?_⟩) (by assumption) ?_
      focus (intro w9 hS9; refine exec_binA (op := BinOp.eql) (t := 46) (t2 := 46) (x := Operand.tmp 40) (y := Operand.tmp 42) ?_ Try.eqGuardType46 ?_ ?_ HIV.out; rfl; all_goals (first | rfl | go_simp))
      (try simp only [List.getElem_toArray, List.getElem_cons_succ, List.getElem_cons_zero])
      (try simp only [Act.put])
      (try simp only [List.setIfInBounds_toArray])
      (repeat (first | simp only [List.set_cons_succ] | simp only [List.set_cons_zero]))
      refine wpE_take (i := 5) (v := ?_) rfl (by kernel_rfl) (fun _ _ _ h => h) (Or.inl ⟨by kernel_rfl, ?_⟩) (by assumption) ?_
      rotate_left
      focus (intro w9 hS9; (try dsimp only at hS9); go_simp; (try with_reducible rfl))
      (try simp only [List.getElem_toArray, List.getElem_cons_succ, List.getElem_cons_zero])
      (try simp only [Act.put])
      (try simp only [List.setIfInBounds_toArray])
      (repeat (first | simp only [List.set_cons_succ] | simp only [List.set_cons_zero]))
      refine wpE_take (i := 6) (v := ?_) rfl (by kernel_rfl) (fun _ _ _ h => h) (Or.inl ⟨by kernel_rfl, ?_⟩) (by assumption) ?_
      rotate_left
      focus (intro w9 hS9; (try dsimp only at hS9); go_simp; (try with_reducible rfl))
      (try simp only [List.getElem_toArray, List.getElem_cons_succ, List.getElem_cons_zero])
      (try simp only [Act.put])
      (try simp only [List.setIfInBounds_toArray])
      (repeat (first | simp only [List.set_cons_succ] | simp only [List.set_cons_zero]))
      refine wpE_take (i := 7) (v := ?_) rfl (by kernel_rfl) (fun _ _ _ h => h) (Or.inl ⟨by kernel_rfl, ?_⟩) (by assumption) ?_
      rotate_left
      focus (intro w9 hS9; refine exec_loadA (t := 31) (x := Operand.tmp 5) (p := ⟨bx, 0, none⟩) (A := A) ?_ Try.isAgg31 Try.sizeOf31 ?_ (LD.out w9 hS9); rfl; go_simp; (try rfl))
      (try simp only [List.getElem_toArray, List.getElem_cons_succ, List.getElem_cons_zero])
      (try simp only [Act.put])
      (try simp only [List.setIfInBounds_toArray])
      (repeat (first | simp only [List.set_cons_succ] | simp only [List.set_cons_zero]))
      refine wpE_take (i := 8) (v := ?_) rfl (by kernel_rfl) (fun _ _ _ h => h) (Or.inl ⟨by kernel_rfl, ?_⟩) (by assumption) ?_
      rotate_left
      focus (intro w9 hS9; (try dsimp only at hS9); go_simp; (try with_reducible rfl))
      (try simp only [List.getElem_toArray, List.getElem_cons_succ, List.getElem_cons_zero])
      (try simp only [Act.put])
      (try simp only [List.setIfInBounds_toArray])
      (repeat (first | simp only [List.set_cons_succ] | simp only [List.set_cons_zero]))
      refine wpE_take (i := 10) (v := ?_) rfl (by kernel_rfl) (fun _ _ _ h => h) (Or.inl ⟨by kernel_rfl, ?_⟩) (by assumption) ?_
      rotate_left
      focus (intro w9 hS9; (try dsimp only at hS9); go_simp; (try with_reducible rfl))
      (try simp only [List.getElem_toArray, List.getElem_cons_succ, List.getElem_cons_zero])
      (try simp only [Act.put])
      (try simp only [List.setIfInBounds_toArray])
      (repeat (first | simp only [List.set_cons_succ] | simp only [List.set_cons_zero]))
      refine wpE_take (i := 11) (v := ?_) rfl (by kernel_rfl) (fun _ _ _ h => h) (Or.inl ⟨by kernel_rfl, ?_⟩) (by assumption) ?_
      rotate_left
      focus (intro w9 hS9; refine exec_loadA (t := 31) (x := Operand.tmp 5) (p := ⟨bx, 0, none⟩) (A := A) ?_ Try.isAgg31 Try.sizeOf31 ?_ (LD.out w9 hS9); rfl; go_simp; (try rfl))
      (try simp only [List.getElem_toArray, List.getElem_cons_succ, List.getElem_cons_zero])
      (try simp only [Act.put])
      (try simp only [List.setIfInBounds_toArray])
      (repeat (first | simp only [List.set_cons_succ] | simp only [List.set_cons_zero]))
      refine wpE_take (i := 12) (v := ?_) rfl (by kernel_rfl) (fun _ _ _ h => h) (Or.inl ⟨by kernel_rfl, ?_⟩) (by assumption) ?_
      rotate_left
      focus (intro w9 hS9; (try dsimp only at hS9); go_simp; (try with_reducible rfl))
      (try simp only [List.getElem_toArray, List.getElem_cons_succ, List.getElem_cons_zero])
      (try simp only [Act.put])
      (try simp only [List.setIfInBounds_toArray])
      (repeat (first | simp only [List.set_cons_succ] | simp only [List.set_cons_zero]))
      refine wpE_ready (rs := [9]) (by kernel_rfl) (by kernel_rfl) ?_
      refine AllReadyE.cons rfl (fun K hK => ?_) AllReadyE.nil
      rw [if_pos (show _ = true by kernel_rfl)]
      go_simp
      go_wp2_with (go_at_call 26
                   refine (HTO.out _ (HLJ.out _ HB5.out)).mono ?_
                   rintro e w6 ⟨rfl, hg6⟩
                   have HB6 := Lib.hid (bl_trans HB5.out hg6.below)
                   clear hg6)
      clear hHeld
      refine hK.out _ _ (HB6.out) (fun hHeld => ?_)
      clear hK K
      refine wpE_ready (rs := [13]) (by kernel_rfl) (by kernel_rfl) ?_
      refine AllReadyE.cons rfl (fun K hK => ?_) AllReadyE.nil
      rw [if_pos (show _ = true by kernel_rfl)]
      go_simp
      go_wp2_with (go_at_call 27
                   refine (HTQ.out _ (HLJ.out _ HB6.out)).mono ?_
                   rintro e w7 ⟨rfl, hg7⟩
                   have HB7 := Lib.hid (bl_trans HB6.out hg7.below)
                   clear hg7)
      clear hHeld
      refine hK.out _ _ (HB7.out) (fun hHeld => ?_)
      clear hK K
      refine wpE_take (i := 14) (v := ?_) rfl (by kernel_rfl) (fun _ _ _ h => h) (Or.inl ⟨by kernel_rfl, ?_⟩) (by assumption) ?_
      rotate_left
      focus (intro w9 hS9; (try dsimp only at hS9); go_simp; (try with_reducible rfl))
      (try simp only [List.getElem_toArray, List.getElem_cons_succ, List.getElem_cons_zero])
      (try simp only [Act.put])
      (try simp only [List.setIfInBounds_toArray])
      (repeat (first | simp only [List.set_cons_succ] | simp only [List.set_cons_zero]))
      refine wpE_take (i := 15) (v := ?_) rfl (by kernel_rfl) (fun _ _ _ h => h) (Or.inl ⟨by kernel_rfl, ?_⟩) (by assumption) ?_
      rotate_left
      focus (intro w9 hS9; (try dsimp only at hS9); go_simp; (try with_reducible rfl))
      (try simp only [List.getElem_toArray, List.getElem_cons_succ, List.getElem_cons_zero])
      (try simp only [Act.put])
      (try simp only [List.setIfInBounds_toArray])
      (repeat (first | simp only [List.set_cons_succ] | simp only [List.set_cons_zero]))
      refine wpE_take (i := 16) (v := ?_) rfl (by kernel_rfl) (fun _ _ _ h => h) (Or.inl ⟨by kernel_rfl, ?_⟩) (by assumption) ?_
      rotate_left
      focus (intro w9 hS9; (try dsimp only at hS9); go_simp; (try with_reducible rfl))
      (try simp only [List.getElem_toArray, List.getElem_cons_succ, List.getElem_cons_zero])
      (try simp only [Act.put])
      (try simp only [List.setIfInBounds_toArray])
      (repeat (first | simp only [List.set_cons_succ] | simp only [List.set_cons_zero]))
      refine wpE_take (i := 17) (v := ?_) rfl (by kernel_rfl) (fun _ _ _ h => h) (Or.inl ⟨by kernel_rfl, ?_⟩) (by assumption) ?_
      rotate_left
      focus (intro w9 hS9; (try dsimp only at hS9); go_simp; (try with_reducible rfl))
      (try simp only [List.getElem_toArray, List.getElem_cons_succ, List.getElem_cons_zero])
      (try simp only [Act.put])
      (try simp only [List.setIfInBounds_toArray])
      (repeat (first | simp only [List.set_cons_succ] | simp only [List.set_cons_zero]))
      refine wpE_take (i := 18) (v := ?_) rfl (by kernel_rfl) (fun _ _ _ h => h) (Or.inl ⟨by kernel_rfl, ?_⟩) (by assumption) ?_
      rotate_left
      focus (intro w9 hS9; (try dsimp only at hS9); go_simp; (try with_reducible rfl))
      (try simp only [List.getElem_toArray, List.getElem_cons_succ, List.getElem_cons_zero])
      (try simp only [Act.put])
      (try simp only [List.setIfInBounds_toArray])
      (repeat (first | simp only [List.set_cons_succ] | simp only [List.set_cons_zero]))
      refine wpE_take (i := 20) (v := ?_) rfl (by kernel_rfl) (fun _ _ _ h => h) (Or.inl ⟨by kernel_rfl, ?_⟩) (by assumption) ?_
      rotate_left
      focus (intro w9 hS9; (try dsimp only at hS9); go_simp; (try with_reducible rfl))
      (try simp only [List.getElem_toArray, List.getElem_cons_succ, List.getElem_cons_zero])
      (try simp only [Act.put])
      (try simp only [List.setIfInBounds_toArray])
      (repeat (first | simp only [List.set_cons_succ] | simp only [List.set_cons_zero]))
      refine wpE_take (i := 21) (v := ?_) rfl (by kernel_rfl) (fun _ _ _ h => h) (Or.inl ⟨by kernel_rfl, ?_⟩) (by assumption) ?_
      rotate_left
      focus (intro w9 hS9; (try dsimp only at hS9); go_simp; (try with_reducible rfl))
      (try simp only [List.getElem_toArray, List.getElem_cons_succ, List.getElem_cons_zero])
      (try simp only [Act.put])
      (try simp only [List.setIfInBounds_toArray])
      (repeat (first | simp only [List.set_cons_succ] | simp only [List.set_cons_zero]))
      refine wpE_ready (rs := [19]) (by kernel_rfl) (by kernel_rfl) ?_
      refine AllReadyE.cons rfl (fun K hK => ?_) AllReadyE.nil
      rw [if_pos (show _ = true by kernel_rfl)]
      go_simp
      go_wp2_with (go_at_call 20
                   refine (HOF.out _ (HLJ.out _ HB7.out)).mono ?_
                   rintro e w8 ⟨⟨v8, rfl, ho8⟩, hb8⟩
                   obtain ⟨a8, c8, rfl, -⟩ := ho8.form
                   have HO8 := Lib.hid ho8.sl
                   have HB8 := Lib.hid (bl_trans HB7.out hb8)
                   clear ho8 hb8)
      clear hHeld
      refine hK.out _ _ (HB8.out) (fun hHeld => ?_)
      clear hK K
      refine wpE_ready (rs := [22]) (by kernel_rfl) (by kernel_rfl) ?_
      refine AllReadyE.cons rfl (fun K hK => ?_) AllReadyE.nil
      rw [if_pos (show _ = true by kernel_rfl)]
      go_simp
      go_wp2_with (go_at_call 28
                   refine (HOQ.out _ (HLJ.out _ HB8.out)).mono ?_
                   rintro e w9 ⟨⟨v9, rfl, ho9⟩, hb9⟩
                   obtain ⟨a9, c9, rfl, -⟩ := ho9.form
                   have HO9 := Lib.hid ho9.sl
                   have HM9 := Lib.hid (SlIs.step HO8.out hb9)
                   have HB9 := Lib.hid (bl_trans HB8.out hb9)
                   clear ho9 hb9)
      clear hHeld
      refine hK.out _ _ (HB9.out) (fun hHeld => ?_)
      clear hK K
      refine wpE_ready (rs := [23]) (by kernel_rfl) (by kernel_rfl) ?_
      refine AllReadyE.cons rfl (fun K hK => ?_) AllReadyE.nil
      rw [if_pos (show _ = true by kernel_rfl)]
      go_simp
      go_wp2_with (go_at_call 21
                   refine (same_self HM9.out HO9.out).mono ?_
                   rintro e w10 ⟨rfl, hg10⟩
                   have HB10 := Lib.hid (bl_trans HB9.out hg10.below)
                   clear hg10)
      clear hHeld
      refine hK.out _ _ (HB10.out) (fun hHeld => ?_)
      clear hK K
      refine wpE_take (i := 24) (v := ?_) rfl (by kernel_rfl) (fun _ _ _ h => h) (Or.inl ⟨by kernel_rfl, ?_⟩) (by assumption) ?_
      rotate_left
      focus (intro w9 hS9; (try dsimp only at hS9); go_simp; (try with_reducible rfl))
      (try simp only [List.getElem_toArray, List.getElem_cons_succ, List.getElem_cons_zero])
      (try simp only [Act.put])
      (try simp only [List.setIfInBounds_toArray])
      (repeat (first | simp only [List.set_cons_succ] | simp only [List.set_cons_zero]))
      refine wpE_take (i := 25) (v := ?_) rfl (by kernel_rfl) (fun _ _ _ h => h) (Or.inl ⟨by kernel_rfl, ?_⟩) (by assumption) ?_
      rotate_left
      focus (intro w9 hS9; (try dsimp only at hS9); go_simp; (try with_reducible rfl))
      (try simp only [List.getElem_toArray, List.getElem_cons_succ, List.getElem_cons_zero])
      (try simp only [Act.put])
      (try simp only [List.setIfInBounds_toArray])
      (repeat (first | simp only [List.set_cons_succ] | simp only [List.set_cons_zero]))
      refine wpE_ready (rs := [26]) (by kernel_rfl) (by kernel_rfl) ?_
      refine AllReadyE.cons rfl (fun K hK => ?_) AllReadyE.nil
      rw [if_pos (show _ = true by kernel_rfl)]
      go_simp
      go_wp2_with (go_at_call 13
                   refine (alive_any _).mono ?_
                   rintro e w11 ⟨rfl, hb11⟩
                   have HB11 := Lib.hid (bl_trans HB10.out hb11)
                   clear hb11)
      clear hHeld
      refine hK.out _ _ (HB11.out) (fun hHeld => ?_)
      clear hK K
      refine wpE_take (i := 27) (v := ?_) rfl (by kernel_rfl) (fun _ _ _ h => h) (Or.inl ⟨by kernel_rfl, ?_⟩) (by assumption) ?_
      rotate_left
      focus (intro w9 hS9; (try dsimp only at hS9); go_simp; (try with_reducible rfl))
      (try simp only [List.getElem_toArray, List.getElem_cons_succ, List.getElem_cons_zero])
      (try simp only [Act.put])
      (try simp only [List.setIfInBounds_toArray])
      (repeat (first | simp only [List.set_cons_succ] | simp only [List.set_cons_zero]))
      clear hHeld
      refine wpE_out (by kernel_rfl) ?_
      refine wpAny_ready (rs := [28]) (by kernel_rfl) (by simp) ?_
      refine AllReady.cons rfl (fun K hK => ?_) AllReady.nil
      rw [if_pos (show _ = true by kernel_rfl)]
      go_simp
      refine hK _ _ ?_
      clear hK K
      refine wpAny_done (by kernel_rfl) ?_ _
      go_wp2_with (fail)
      go_ret
      exact ⟨rfl, HBJ.out.trans (HB11.out.mono HBJ.out.size)⟩
set_option maxRecDepth 100000 in
theorem asks_lift (os : Os) (started : os.Started) (H : Type) (enc : TypeId × Value → H) :
    ReturnsInHanded {} Try.checked os 9 .any (Rows.groupAsksSpec.pre6 enc Try.prog Try.f9 Rows.groupAsksRow.domain false) (Rows.groupAsksSpec.post enc Try.prog Try.f9 false true false false) :=
  law_lift (C := Try.checked) (s := Rows.groupAsksSpec) (fn := Try.f9) ⟨rfl, fun H ds h => by
    match ds, h with
    | [a, b, c, d], _ => exact ⟨rfl, rfl, rfl⟩⟩ rfl Try.underlying4 (by kernel_rfl) laid0 own0 started (by kernel_rfl) Try.func9
    (ChangeSpec.witness6 (enc := enc) (C := Try.checked) false ⟨#[], #[.slice none 0 0, .agg #[.string ByteArray.empty, .int .i64 0, .int .i64 0, .string ByteArray.empty, .string ByteArray.empty, .int .i64 0, .int .i64 0, .int .i64 0, .string ByteArray.empty, .int .i64 0, .int .i64 0], .int .i64 0, .int .i64 0], []⟩ 8 (by kernel_rfl) (by kernel_rfl) (by kernel_rfl) (by kernel_rfl)) asks_walk

/-- THE STATEMENT: GroupAsks. -/
theorem asks_holds : Rows.GroupAsksSaid :=
  OpenClaim.holds_of_wide 9 Try.f9 rfl rfl rfl rfl rfl rfl rfl ⟨rfl, rfl, rfl, rfl, rfl⟩ rfl rfl rfl rfl rfl (by kernel_rfl) Try.func9 (by kernel_rfl)
    (of_decide_eq_true (by kernel_rfl)) (by unfold Func.isWrapper; rw [if_neg (of_decide_eq_false (by kernel_rfl))]; exact ⟨rfl, rfl⟩)
    (fun os started H enc _ => asks_lift os started H enc)
end Go.Proofs.Ytffpnbipacgidaa
