/-
  Layer 43 (exchange): the walk of the reference's Ack.
-/
import Derived.Test.YtmjbbpappigngaaGreatExcSend
import Derived.Test.YtmjbbpappigngaaGreatHeld
namespace Go.Tw.Exc
open Go.RowKit Go.Tw
/-- one element of a slice, as a slice -/
theorem SlIs.one {α : Type} {T : Ty α} {S : Nat → Prop} {w : World} {b off n cap : Nat} {l : List α} (h : SlIs T S w (.slice (some ⟨b, off, none⟩) n cap) l) {k : Nat} (hk : k < l.length) : SlIs T S w (.slice (some ⟨b, off + k * T.sz, none⟩) 1 (cap - k)) [l[k]] := by
  obtain ⟨ao, cap', b', off', hv, h1, h2, h3, h4⟩ := h
  simp only [Value.slice.injEq] at hv
  obtain ⟨hv1, hv2, rfl⟩ := hv
  refine ⟨some ⟨b, off + k * T.sz, none⟩, cap - k, b, off + k * T.sz, rfl, by simp; omega, by omega, fun e => (by cases e), fun j hj => ?_⟩
  obtain rfl : j = 0 := by simpa using hj
  obtain ⟨g1, g2, g3, cs, g4, g5⟩ := h4 k hk
  rw [← hv1] at g1
  simp only [Option.some.injEq, Addr.mk.injEq, and_true] at g1
  obtain ⟨rfl, rfl⟩ := g1
  exact ⟨rfl, g2, g3, cs, fun j hj => by rw [Nat.zero_mul, Nat.add_zero]; exact g4 j hj, g5⟩
end Go.Tw.Exc
namespace Go.Proofs.YtmjbbpappigngaaGreat
open Go.RowKit Go.Tw Go.Tw.Exc
theorem box6A {wb : World} {b : Nat} {t : TypeId} {a0 a1 a2 a3 a4 a5 : Value} (h : wb.heap[b]? = some (.cells #[a0, a1, a2, a3, a4, a5] t (0, 0))) : ∀ w', Below wb.heap.size wb w' → w'.cell? ⟨b, 0, none⟩ = some a0 ∧ w'.cell? ⟨b, 1, none⟩ = some a1 ∧ w'.cell? ⟨b, 2, none⟩ = some a2 ∧ w'.cell? ⟨b, 3, none⟩ = some a3 ∧ w'.cell? ⟨b, 4, none⟩ = some a4 ∧ w'.cell? ⟨b, 5, none⟩ = some a5 := fun w' hb => by
  obtain ⟨h0, h1, h2, h3, h4, h5, -⟩ := blk6' ((hb.block b (lt_of_heap h)).trans h)
  exact ⟨h0, h1, h2, h3, h4, h5⟩
/-- while the files that stay are gathered: box b6 holds the partner -/
structure AXR (w : World) (p : Par) (b6 : Nat) (pw po pt vo vt vA : Value) (l : List Fil) (wx : World) : Prop where
  pbox : wx.heap[w.heap.size]? = some (.cells #[.string p.nm, .int .i64 p.out, .int .i64 p.inn, pw, po, pt] 29 (0, 0))
  rbox : wx.heap[w.heap.size + 1]? = some (.cells #[.string ByteArray.empty, .int .i64 0, .int .i64 0, .slice none 0 0, .slice none 0 0, .slice none 0 0] 29 (0, 0))
  box : wx.heap[b6]? = some (.cells #[.string p.nm, .int .i64 p.out, .int .i64 p.inn, vA, vo, vt] 29 (0, 0))
  bel : Below w.heap.size w wx
  lo : w.heap.size + 2 ≤ b6
  ours : SlIs tRec (fun k => w.heap.size + 2 ≤ k ∧ k < b6) wx vo p.ours
  thr : SlIs tRec (fun k => w.heap.size + 2 ≤ k ∧ k < b6) wx vt p.thr
  wt : OwnS tFil 45 (b6 + 1) (fun k => b6 + 1 ≤ k ∧ k < wx.heap.size ∧ some k ≠ vA.ownBlock) wx vA l
section
variable {w wx w6 w7 : World} {p : Par} {b6 : Nat} {pw po pt vo vt vA v7 : Value} {l : List Fil}
theorem AXR.step (h : AXR w p b6 pw po pt vo vt vA l wx) (hb : Below wx.heap.size wx w6) : AXR w p b6 pw po pt vo vt vA l w6 :=
  ⟨Go.Tw.Below.at_old hb h.pbox, Go.Tw.Below.at_old hb h.rbox, Go.Tw.Below.at_old hb h.box, bl_trans h.bel hb, h.lo,
   h.ours.keep (fun _ q => q) (fun k q => hb.block k (by have := lt_of_heap h.box; omega)), h.thr.keep (fun _ q => q) (fun k q => hb.block k (by have := lt_of_heap h.box; omega)),
   (h.wt.below (fun k q => q.2.1) hb).mono (fun k q => ⟨q.1, Nat.lt_of_lt_of_le q.2.1 hb.size, q.2.2⟩)⟩
theorem AXR.push (h : AXR w p b6 pw po pt vo vt vA l w6) {l' : List Fil} {B6 : Nat} (hB6 : wx.heap.size ≤ B6) (hA : ∀ k, vA.ownBlock = some k → k < wx.heap.size) (hx : b6 < wx.heap.size)
    (ho : OwnS tFil 45 (b6 + 1) (fun k => (b6 + 1 ≤ k ∧ k < w6.heap.size ∧ some k ≠ vA.ownBlock) ∨ (B6 ≤ k ∧ k < w6.heap.size)) w7 v7 l') (hg : w6.grownBy w7 vA.ownBlock) (hor : v7.ownBlock = vA.ownBlock ∨ v7.ownBlock = some w6.heap.size) :
    AXR w p b6 pw po pt vo vt v7 l' (w7.setCell ⟨b6, 3, none⟩ v7) := by
  have hlo := h.lo
  have hz := hg.size
  have hAl := fun k q => (h.wt.own_lt k q).1
  have h7l := fun k q => (ho.own_lt k q).1
  have hb6 : b6 < w6.heap.size := lt_of_heap h.box
  have hk : ∀ k, k ≤ b6 → w7.heap[k]? = w6.heap[k]? := fun k q => hg.block k (by omega) (fun e => by have := hAl k e.symm; omega)
  have hs : ∀ k, k ≠ b6 → (w7.setCell ⟨b6, 3, none⟩ v7).heap[k]? = w7.heap[k]? := fun k q => Below.heap_setCell _ _ _ _ q
  refine ⟨(hs _ (by omega)).trans ((hk _ (by omega)).trans h.pbox), (hs _ (by omega)).trans ((hk _ (by omega)).trans h.rbox), heap_setCell_same _ _ 3 _ _ _ ((hk _ (Nat.le_refl _)).trans h.box), bl_set (h.bel.trans (Below.of_grown hg h.bel.size (fun k e => by have := hAl k e; omega))) _ (by show w.heap.size ≤ b6; omega), hlo, ?_, ?_, ?_⟩
  · exact h.ours.keep (fun _ q => q) (fun k q => (hs k (by omega)).trans (hk k (by omega)))
  · exact h.thr.keep (fun _ q => q) (fun k q => (hs k (by omega)).trans (hk k (by omega)))
  · have hgg : w7.grownBy (w7.setCell ⟨b6, 3, none⟩ v7) (some b6) := ⟨rfl, rfl, rfl, by simp, fun k _ q => hs k (fun e => q (by rw [e]))⟩
    refine (ho.grown hgg ?_ (fun k q => ⟨?_, fun e => ?_⟩)).mono (fun k q => ⟨?_, ?_, fun e => ?_⟩)
    · by_cases hn : v7.ownBlock = none
      · exact .inl hn
      · exact .inr (fun e => by have := h7l b6 e; omega)
    · rcases q with q | q <;> omega
    · injection e with e
      rcases q with q | q <;> omega
    · rcases q with q | q <;> omega
    · simp
      rcases q with q | q <;> omega
    · rcases hor with r | r
      · rcases q with q | q
        · exact q.2.2 (e.trans r)
        · have := hA k (by rw [← r, ← e])
          omega
      · rw [r] at e
        injection e with e
        rcases q with q | q <;> omega
end
set_option maxRecDepth 100000 in
set_option maxHeartbeats 4000000 in
theorem ackR_gen (S : Nat → Prop) (p : Par) (sq : Int) (vw vo vt : Value) (w : World) (hsp : ParOk S w p vw vo vt) (hss : ∀ k, S k → k < w.heap.size) (hs : SmallP p) (hq64 : i64ok sq) :
    Calls Tryz.prog 31 #[.agg #[.string p.nm, .int .i64 p.out, .int .i64 p.inn, vw, vo, vt], .int .i64 sq] w fun e w' => PEs S w w' e (ackC p sq) ∧ Below w.heap.size w w' := by
  have h : ParOk (· < w.heap.size) w p vw vo vt := hsp.keep hss (SameOn.refl _ _)
  have HP := Lib.hid h
  have HPS := Lib.hid hsp
  have HSS := Lib.hid hss
  have HS := Lib.hid hs
  obtain ⟨aw, cw, bw, ow, rfl, hw1, hw2, -⟩ := id h.wt
  obtain ⟨ao, co, bo, oo, rfl, ho1, ho2, -⟩ := id h.ours
  obtain ⟨at', ct, bt, ot, rfl, ht1, ht2, -⟩ := id h.thr
  unfold i64ok at hq64
  have hsw := hs.wt
  clear h hs hsp hss
  by_cases q1 : sq < 0
  · have HC := Lib.hid (ack_no (p := p) (.inl q1))
    go_enter Tryz.func31, Tryz.ntmps31
    go_wp2_with (fail)
    refine bodyPost_ret (v := .tuple #[.agg #[.string p.nm, .int .i64 p.out, .int .i64 p.inn, .slice aw p.wt.length cw, .slice ao p.ours.length co, .slice at' p.thr.length ct], .int .i64 31]) (by simp [results, Tryz.results31, go_sem]) rfl ⟨pes_mk HC.out (parOk_stepS HPS.out HSS.out ?_), ?_⟩
    · (repeat (first | (with_reducible exact Below.refl _ _) | (with_reducible apply bl_drewN) | (with_reducible apply bl_alloc) | ((with_reducible refine bl_set ?_ _ ?_); rotate_left; focus (first | exact Nat.le_refl _ | (simp; done) | (simp; omega)))))
    · (repeat (first | (with_reducible exact Below.refl _ _) | (with_reducible apply bl_drewN) | (with_reducible apply bl_alloc) | ((with_reducible refine bl_set ?_ _ ?_); rotate_left; focus (first | exact Nat.le_refl _ | (simp; done) | (simp; omega)))))
  have q1' : decide (sq < 0) = false := by simpa using q1
  by_cases q2 : p.out ≤ sq
  · have HC := Lib.hid (ack_no (p := p) (.inr q2))
    clear q1
    go_enter Tryz.func31, Tryz.ntmps31
    go_wp2_with (fail)
    refine bodyPost_ret (v := .tuple #[.agg #[.string p.nm, .int .i64 p.out, .int .i64 p.inn, .slice aw p.wt.length cw, .slice ao p.ours.length co, .slice at' p.thr.length ct], .int .i64 31]) (by simp [results, Tryz.results31, go_sem]) rfl ⟨pes_mk HC.out (parOk_stepS HPS.out HSS.out ?_), ?_⟩
    · (repeat (first | (with_reducible exact Below.refl _ _) | (with_reducible apply bl_drewN) | (with_reducible apply bl_alloc) | ((with_reducible refine bl_set ?_ _ ?_); rotate_left; focus (first | exact Nat.le_refl _ | (simp; done) | (simp; omega)))))
    · (repeat (first | (with_reducible exact Below.refl _ _) | (with_reducible apply bl_drewN) | (with_reducible apply bl_alloc) | ((with_reducible refine bl_set ?_ _ ?_); rotate_left; focus (first | exact Nat.le_refl _ | (simp; done) | (simp; omega)))))
  have q2' : decide (p.out ≤ sq) = false := by simpa using q2
  have HC := Lib.hid (ack_yes (p := p) (sq := sq) (by omega))
  clear q1 q2
  go_enter Tryz.func31, Tryz.ntmps31
  go_wp2_with (fail)
  refine (copiedP_any p _ _ _ _ (HP.out.step (bl_alloc (bl_alloc (Below.refl _ _) _) _)) HS.out).mono ?_
  rintro e w2 ⟨vw', vo', vt', rfl, hown, hb2⟩
  obtain ⟨⟨aw', cw', rfl, hw1', hw2'⟩, ⟨ao', co', rfl, ho1', ho2'⟩, ⟨at2, ct2, rfl, ht1', ht2'⟩⟩ := hown.form
  have m0 := Go.Tw.Below.at_old hb2 (heap_alloc2_old w _ _)
  have m1 := Go.Tw.Below.at_old hb2 (heap_alloc2_new w _ _)
  have HW2 := Lib.hid (bl_trans (bl_alloc (bl_alloc (Below.refl w.heap.size w) _) _) hb2)
  have hsz2 : w.heap.size + 2 ≤ w2.heap.size := by have := hb2.size; simpa using this
  have hown2 : OwnP (w.heap.size + 2) w2 p (.slice aw' p.wt.length cw') (.slice ao' p.ours.length co') (.slice at2 p.thr.length ct2) := hown.low (by simp)
  clear hown hb2
  have hok := hown2.ok HP.out
  obtain ⟨c0, c1, c2, c3, c4, c5, cf⟩ := blk6' m0
  have HX0 := Lib.hid (show AXR w p w2.heap.size (.slice aw p.wt.length cw) (.slice ao p.ours.length co) (.slice at' p.thr.length ct) (.slice ao' p.ours.length co') (.slice at2 p.thr.length ct2) (.slice none 0 0) [] (w2.alloc (.cells #[.string p.nm, .int .i64 p.out, .int .i64 p.inn, .slice none 0 0, .slice ao' p.ours.length co', .slice at2 p.thr.length ct2] 29)) from
    ⟨(Below.heap_alloc _ _ _ (by omega)).trans m0, (Below.heap_alloc _ _ _ (by omega)).trans m1, alloc1_0 _ _, bl_alloc HW2.out _, hsz2, hok.ours.keep (fun _ q => q) (fun k q => Below.heap_alloc _ _ _ q.2), hok.thr.keep (fun _ q => q) (fun k q => Below.heap_alloc _ _ _ q.2), OwnS.nil⟩)
  obtain ⟨awo, cwo, bwo, owo, ewo, _, _, HWO⟩ := fil_open HP.out.wt
  simp only [Value.slice.injEq, true_and] at ewo
  obtain ⟨rfl, rfl⟩ := ewo
  have HO := Lib.hid HWO
  clear HWO hown2 hok m0 m1 HW2
  obtain ⟨wb, hwb⟩ : ∃ wb, w2.alloc (.cells #[.string p.nm, .int .i64 p.out, .int .i64 p.inn, .slice none 0 0, .slice ao' p.ours.length co', .slice at2 p.thr.length ct2] 29) = wb := ⟨_, rfl⟩
  rw [hwb] at HX0
  go_wp2_with (fail)
  clear hwb c0 c1 c2 c3 c4 c5 cf
  go_loopg [7] p.wt.length (fun g i wr => ∃ (k : Nat) (a : Option Addr) (cA : Nat), k + g = p.wt.length ∧ i = .int .i64 k ∧ AXR w p w2.heap.size (.slice aw p.wt.length cw) (.slice ao p.ours.length co) (.slice at' p.thr.length ct) (.slice ao' p.ours.length co') (.slice at2 p.thr.length ct2) (.slice a ((p.wt.take k).filter fun f => decide (sq < f.sq)).length cA) ((p.wt.take k).filter fun f => decide (sq < f.sq)) wr)
  case atStart => exact ⟨0, none, 0, by omega, rfl, HX0.out⟩
  case round =>
    clear HX0
    obtain ⟨k, a, cA, hk, rfl, hX⟩ := hrel
    have HX := Lib.hid hX
    clear hX
    obtain ⟨c0, c1, c2, c3, c4, c5, cf⟩ := blk6' HX.out.pbox
    by_cases hlt : k < p.wt.length
    · obtain ⟨rfl, hbw, -, hv, hok, d0, d1, d2, d3⟩ := HO.out wr (.of_below HX.out.bel) k hlt
      have k0 : (0 : Int) ≤ (k : Int) := by omega
      have k1 : (k : Int) < (p.wt.length : Int) := by omega
      obtain ⟨f, hf⟩ : ∃ f, p.wt[k] = f := ⟨_, rfl⟩
      have HFE := Lib.hid hf
      rw [hf] at d2
      clear hok d0 d1 d3 hf hv
      by_cases hgt : sq < f.sq
      · have HN := Lib.hid (show (p.wt.take (k + 1)).filter (fun f => decide (sq < f.sq)) = (p.wt.take k).filter (fun f => decide (sq < f.sq)) ++ [f] by
          rw [List.take_succ_eq_append_getElem hlt, List.filter_append, HFE.out]; simp [hgt])
        obtain ⟨l, hl⟩ : ∃ l, (p.wt.take k).filter (fun f => decide (sq < f.sq)) = l := ⟨_, rfl⟩
        have hll : l.length ≤ 100000 := by
          rw [← hl]
          refine Nat.le_trans (List.length_filter_le _ _) ?_
          rw [List.length_take]; omega
        rw [hl] at HX HN
        clear hl
        go_upto_region 9 with (fail)
        have HBX := Lib.hid (box6A HX.out.box)
        have HBP := Lib.hid (box6A HX.out.pbox)
        have hz6 : w2.heap.size < wr.heap.size := lt_of_heap HX.out.box
        have hk1 : IntKind.i64.wrap ((k : Int) + 1) = (k : Int) + 1 := wrap_in (by omega) (by omega)
        have HFI := Lib.hid (show ∀ W', Below wr.heap.size wr W' → Calls Tryz.prog 51 #[.slice (some ⟨bwo, owo + k * 4, none⟩) 1 (cw - k)] W' fun e w' => (∃ v', e = .returned v' ∧ NewL tFil 45 wr.heap.size w' v' [f]) ∧ Below wr.heap.size wr w' from fun W' hb => by
          have h1 := SlIs.one (HP.out.wt.step (bl_trans HX.out.bel hb)) hlt
          rw [HFE.out] at h1
          refine (filesR_any [f] _ W' h1 (by simp) (fun g hg => by
            rw [List.mem_singleton.1 hg, ← HFE.out]
            have := HS.out.rs _ (List.getElem_mem hlt); omega)).mono ?_
          rintro e w' ⟨v', rfl, q1, q2⟩
          exact ⟨⟨v', rfl, q1.mono hb.size⟩, hb.trans (q2.mono hb.size)⟩)
        clear c0 c1 c2 c3 c4 c5 cf d2
        have g1 : (0 : Int) ≤ (k : Int) + 1 := by omega
        have g2 : (k : Int) + 1 ≤ (cw : Int) := by omega
        have g3 : (k : Int) ≤ (k : Int) + 1 := by omega
        have g4 : ¬ cw = k := by omega
        refine wp_region_E 9 (fun w' => Below wr.heap.size wr w') (by kernel_rfl) ((by (repeat (first | (with_reducible exact Below.refl _ _) | (with_reducible apply bl_drewN) | (with_reducible apply bl_alloc) | (with_reducible apply Below.drew))); done)) (fun hHeld => ?_)
        refine wpE_take (i := 0) (v := ?_) rfl (by kernel_rfl) (fun _ _ _ h => h) (Or.inl ⟨by kernel_rfl, ?_⟩) (by assumption) ?_
        rotate_left
        focus (intro w9 hS9; (try dsimp only at hS9); go_simp; (try with_reducible rfl))
        (try simp only [Act.put])
        (try simp only [List.setIfInBounds_toArray])
        (repeat (first | simp only [List.set_cons_succ] | simp only [List.set_cons_zero]))
        refine wpE_take (i := 1) (v := ?_) rfl (by kernel_rfl) (fun _ _ _ h => h) (Or.inl ⟨by kernel_rfl, ?_⟩) (by assumption) ?_
        rotate_left
        focus (intro w9 hS9; obtain ⟨z0, z1, z2, z3, z4, z5⟩ := HBX.out w9 hS9; clear hS9; go_simp; (try with_reducible rfl))
        (try simp only [Act.put])
        (try simp only [List.setIfInBounds_toArray])
        (repeat (first | simp only [List.set_cons_succ] | simp only [List.set_cons_zero]))
        refine wpE_take (i := 2) (v := ?_) rfl (by kernel_rfl) (fun _ _ _ h => h) (Or.inl ⟨by kernel_rfl, ?_⟩) (by assumption) ?_
        rotate_left
        focus (intro w9 hS9; (try dsimp only at hS9); go_simp; (try with_reducible rfl))
        (try simp only [Act.put])
        (try simp only [List.setIfInBounds_toArray])
        (repeat (first | simp only [List.set_cons_succ] | simp only [List.set_cons_zero]))
        refine wpE_take (i := 3) (v := ?_) rfl (by kernel_rfl) (fun _ _ _ h => h) (Or.inl ⟨by kernel_rfl, ?_⟩) (by assumption) ?_
        rotate_left
        focus (intro w9 hS9; obtain ⟨z0, z1, z2, z3, z4, z5⟩ := HBP.out w9 hS9; clear hS9; go_simp; (try with_reducible rfl))
        (try simp only [Act.put])
        (try simp only [List.setIfInBounds_toArray])
        (repeat (first | simp only [List.set_cons_succ] | simp only [List.set_cons_zero]))
        refine wpE_take (i := 4) (v := ?_) rfl (by kernel_rfl) (fun _ _ _ h => h) (Or.inl ⟨by kernel_rfl, ?_⟩) (by assumption) ?_
        rotate_left
        focus (intro w9 hS9; (try dsimp only at hS9); go_simp; (try with_reducible rfl))
        (try simp only [Act.put])
        (try simp only [List.setIfInBounds_toArray])
        (repeat (first | simp only [List.set_cons_succ] | simp only [List.set_cons_zero]))
        refine wpE_take (i := 5) (v := ?_) rfl (by kernel_rfl) (fun _ _ _ h => h) (Or.inl ⟨by kernel_rfl, ?_⟩) (by assumption) ?_
        rotate_left
        focus (intro w9 hS9; (try dsimp only at hS9); go_simp; (try with_reducible rfl))
        (try simp only [Act.put])
        (try simp only [List.setIfInBounds_toArray])
        (repeat (first | simp only [List.set_cons_succ] | simp only [List.set_cons_zero]))
        refine wpE_take (i := 6) (v := ?_) rfl (by kernel_rfl) (fun _ _ _ h => h) (Or.inl ⟨by kernel_rfl, ?_⟩) (by assumption) ?_
        rotate_left
        focus (intro w9 hS9; (try dsimp only at hS9); go_simp; (try with_reducible rfl))
        (try simp only [Act.put])
        (try simp only [List.setIfInBounds_toArray])
        (repeat (first | simp only [List.set_cons_succ] | simp only [List.set_cons_zero]))
        refine wpE_take (i := 7) (v := ?_) rfl (by kernel_rfl) (fun _ _ _ h => h) (Or.inl ⟨by kernel_rfl, ?_⟩) (by assumption) ?_
        rotate_left
        focus (intro w9 hS9; (try dsimp only at hS9); go_simp; (try with_reducible rfl))
        (try simp only [Act.put])
        (try simp only [List.setIfInBounds_toArray])
        (repeat (first | simp only [List.set_cons_succ] | simp only [List.set_cons_zero]))
        refine wpE_ready (rs := [8]) (by kernel_rfl) (by kernel_rfl) ?_
        refine AllReadyE.cons rfl (fun K hK => ?_) AllReadyE.nil
        rw [if_pos (show _ = true by kernel_rfl)]
        go_simp
        go_wp2_with (
          go_at_call 51
          refine (HFI.out _ (by (repeat (first | (with_reducible exact Below.refl _ _) | (with_reducible apply bl_drewN) | (with_reducible apply bl_alloc) | (with_reducible apply Below.drew))); done)).mono ?_
          rintro e w6 ⟨⟨v6, rfl, hn6⟩, hb6⟩
          have HN6 := Lib.hid hn6
          have HB6 := Lib.hid hb6
          clear hn6 hb6)
        clear hHeld
        refine hK.out _ _ (HB6.out) (fun hHeld => ?_)
        clear hK K
        clear hHeld
        refine wpE_out (by kernel_rfl) ?_
        clear HFI g1 g2 g3 g4 hk1
        have hz7 : wr.heap.size ≤ w6.heap.size := HB6.out.size
        have HX6 := Lib.hid (HX.out.step HB6.out)
        have HAO := Lib.hid (show ∀ q, (Value.slice a l.length cA).ownBlock = some q → q < wr.heap.size from fun q e => (HX.out.wt.own_lt q e).2)
        refine wpAny_ready (rs := [9]) (by kernel_rfl) (by simp) ?_
        refine AllReady.cons rfl (fun K hK => ?_) AllReady.nil
        refine step_append_oneS (.tmp 36) (.tmp 43) rfl 26 rfl slFil rfl HX6.out.wt (fun q hq => ⟨hq.2.1, hq.2.2⟩) rfl
          HN6.out.sl (fun q hq => ⟨hq.2, fun e => by have := HAO.out q e.symm; omega⟩) (by omega) (by unfold maxLen; omega) (by omega) ?_
        intro v3 w7 ho7 hg7 hor7
        have HP7 := Lib.hid (HX6.out.push (Nat.le_refl _) HAO.out hz6 ho7 hg7 hor7)
        obtain ⟨a3, c3', q3, -⟩ := ho7.form
        rw [List.length_append] at q3
        change v3 = .slice a3 (l.length + 1) c3' at q3
        subst q3
        obtain ⟨z0, z1, z2, z3, z4, z5, zf⟩ := blk6' ((hg7.block w2.heap.size (by omega) (fun e => by have := (HX6.out.wt.own_lt _ e.symm).1; omega)).trans HX6.out.box)
        clear ho7 hg7 hor7
        refine hK _ _ ?_
        clear hK K
        refine wpAny_ready (rs := [10]) (by kernel_rfl) (by simp) ?_
        refine AllReady.cons rfl (fun K hK => ?_) AllReady.nil
        rw [if_pos (show _ = true by kernel_rfl)]
        go_simp
        refine hK _ _ ?_
        clear hK K
        refine wpAny_ready (rs := [11]) (by kernel_rfl) (by simp) ?_
        refine AllReady.cons rfl (fun K hK => ?_) AllReady.nil
        rw [if_pos (show _ = true by kernel_rfl)]
        go_simp
        refine hK _ _ ?_
        clear hK K
        refine wpAny_done (by kernel_rfl) ?_ _
        obtain ⟨wx, hwx2⟩ : ∃ wx, w7.setCell ⟨w2.heap.size, 3, none⟩ (.slice a3 (l.length + 1) c3') = wx := ⟨_, rfl⟩
        rw [hwx2] at HP7 ⊢
        clear hwx2 z0 z1 z2 z3 z4 z5 zf
        go_wp2_with (fail)
        go_roundg (p.wt.length - (k + 1))
        case measure => omega
        case rel => exact ⟨k + 1, a3, c3', by omega, by go_num, by rw [HN.out, List.length_append]; exact HP7.out⟩
      · have HN := Lib.hid (show (p.wt.take (k + 1)).filter (fun f => decide (sq < f.sq)) = (p.wt.take k).filter (fun f => decide (sq < f.sq)) by
          rw [List.take_succ_eq_append_getElem hlt, List.filter_append, HFE.out]; simp [hgt])
        go_wp2_with (fail)
        go_roundg (p.wt.length - (k + 1))
        case measure => omega
        case rel => exact ⟨k + 1, a, cA, by omega, by go_num, by rw [HN.out]; exact HX.out⟩
    · obtain rfl : k = p.wt.length := by omega
      have hkd : decide ((p.wt.length : Int) < (p.wt.length : Int)) = false := by simp
      rw [List.take_length] at HX
      obtain ⟨d0, d1, d2, d3, d4, d5, df⟩ := blk6' HX.out.rbox
      obtain ⟨z0, z1, z2, z3, z4, z5, zf⟩ := blk6' HX.out.box
      obtain ⟨l, hl⟩ : ∃ l, p.wt.filter (fun f => decide (sq < f.sq)) = l := ⟨_, rfl⟩
      have HL := Lib.hid hl
      rw [hl] at HX HC z3
      have hlo := HX.out.lo
      have HS7 := Lib.hid (show SlIs tFil (fun q => w.heap.size + 2 ≤ q ∧ q < wr.heap.size) wr (.slice a l.length cA) l from HX.out.wt.sl.keep (fun q hq => by
        rcases hq with q' | q'
        · exact ⟨by have := q'.1; omega, q'.2.1⟩
        · have := HX.out.wt.own_lt q q'
          exact ⟨by omega, this.2⟩) (SameOn.refl _ _))
      have hb6 := lt_of_heap HX.out.box
      have HFIN := Lib.hid (show ParOk (fun q => w.heap.size + 2 ≤ q ∧ q < wr.heap.size) wr { p with wt := l } (.slice a l.length cA) (.slice ao' p.ours.length co') (.slice at2 p.thr.length ct2) from ⟨HP.out.nm, HP.out.out, HP.out.inn, HS7.out, HX.out.ours.keep (fun q hq => ⟨hq.1, by have := hq.2; omega⟩) (SameOn.refl _ _), HX.out.thr.keep (fun q hq => ⟨hq.1, by have := hq.2; omega⟩) (SameOn.refl _ _)⟩)
      clear hl hk hlt
      go_wp2_with (fail)
      refine bodyPost_ret (v := .tuple #[.agg #[.string p.nm, .int .i64 p.out, .int .i64 p.inn, .slice a l.length cA, .slice ao' p.ours.length co', .slice at2 p.thr.length ct2], .int .i64 0]) (by simp [results, Tryz.results31, go_sem, d0, d1, d2, d3, d4, d5]) rfl ⟨pes_mk (p := { p with wt := l }) HC.out (HFIN.out.keep (fun q hq => ?_) ?_), ?_⟩
      · exact .inr ⟨by have := hq.1; omega, by simpa using hq.2⟩
      · (repeat (first | (with_reducible exact SameOn.refl _ _) | (with_reducible exact SameOn.refl _ _) | ((with_reducible refine SameOn.set ?_ ?_ _); rotate_left; focus (first | (simp; done) | (simp; omega))) | (with_reducible apply SameOn.drewN)))
      · (repeat (first | (with_reducible exact HX.out.bel) | (with_reducible apply bl_drewN) | (with_reducible apply bl_alloc) | ((with_reducible refine bl_set ?_ _ ?_); rotate_left; focus (first | exact Nat.le_refl _ | (simp; done) | (simp; omega)))))
theorem ackR_any (p : Par) (sq : Int) (vw vo vt : Value) (w : World) (h : ParOk (· < w.heap.size) w p vw vo vt) (hs : SmallP p) (hq64 : i64ok sq) :
    Calls Tryz.prog 31 #[.agg #[.string p.nm, .int .i64 p.out, .int .i64 p.inn, vw, vo, vt], .int .i64 sq] w fun e w' => PE w' e (ackC p sq) ∧ Below w.heap.size w w' :=
  (ackR_gen (· < w.heap.size) p sq vw vo vt w h (fun _ hk => hk) hs hq64).mono fun _ _ ⟨h1, h2⟩ => ⟨h1.pe h2, h2⟩
end Go.Proofs.YtmjbbpappigngaaGreat
