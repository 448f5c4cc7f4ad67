/-
  Layer 43 (exchange): the walks of Ack and Resend.
-/
import Derived.Test.YtmjbbpappigngaaGreatExcDelW
import Derived.LoopN
namespace Go.Proofs.YtmjbbpappigngaaGreat
open Go.RowKit Go.Tw Go.Tw.Exc
theorem indexF_nil (fv : Value) (w : World) : Calls Tryz.prog 81 #[.slice none 0 0, fv] w fun e w' => e = .returned (.int .i64 (-1)) ∧ w = w' := by
  go_enter Tryz.func81, Tryz.ntmps81
  go_wp2
  refine wp_loop_rounds 1 ?_
  rw [rounds_succ]
  go_wp2
  go_ret
  exact ⟨rfl, rfl⟩
theorem delF_nil (fv : Value) (w : World) : Calls Tryz.prog 68 #[.slice none 0 0, fv] w fun e w' => e = .returned (.slice none 0 0) ∧ w = w' := by
  go_enter Tryz.func68, Tryz.ntmps68
  go_wp2_with (go_at_call 81; refine (indexF_nil _ _).mono ?_; rintro e w' ⟨rfl, rfl⟩)
  go_ret
  exact ⟨rfl, rfl⟩
/-- what DeleteFunc leaves, whatever the slice -/
def DelO (F : List Nat) (B : Nat) (sq : Int) (l : List Fil) (w : World) (e : Ending) (w' : World) : Prop := (∃ v', e = .returned v' ∧ SlIs tFil (· ∈ F) w' v' (l.filter fun f => decide (sq < f.sq))) ∧ Below B w w' ∧ w.heap.size ≤ w'.heap.size ∧ ∀ k, k < w.heap.size → k ∉ F → w'.heap[k]? = w.heap[k]?
theorem del_row (l : List Fil) (g n cap : Nat) (F : List Nat) (B : Nat) (sq : Int) (b : Nat) (w : World) (h : OwnL tFil 45 F w (.slice (some ⟨g, 0, none⟩) n cap) l) (nd : F.Nodup) (hB : ∀ k ∈ F, B ≤ k) (hb : b < w.heap.size) (hbF : b ∉ F) (hc : w.cell? ⟨b, 0, none⟩ = some (.int .i64 sq)) :
    Calls Tryz.prog 68 #[.slice (some ⟨g, 0, none⟩) n cap, .func (.func 69) #[] #[.pointer (some ⟨b, 0, none⟩)]] w (DelO F B sq l w) := by
  have hlt := h.lt
  obtain ⟨L, rfl, hr, hL, h1, h2, rfl, hg⟩ := RowF.of h nd
  rw [List.length_map] at h1 ⊢
  refine (delF_any L g cap sq b w (· ∈ F) hg hlt hL hr h1 h2 hb (fun e => hbF (e ▸ hg)) hc).mono ?_
  rintro e w' ⟨v', rfl, hs, ho⟩
  exact ⟨⟨v', rfl, hs⟩, ho.bel.mono (hB g hg), ho.sz, fun k h1 h2 => ho.oth k h1 (fun e => h2 (e ▸ hg))⟩
theorem del_any (l : List Fil) (v : Value) (F : List Nat) (B : Nat) (sq : Int) (b : Nat) (w : World) (h : OwnL tFil 45 F w v l) (nd : F.Nodup) (hB : ∀ k ∈ F, B ≤ k) (hb : b < w.heap.size) (hbF : b ∉ F) (hc : w.cell? ⟨b, 0, none⟩ = some (.int .i64 sq)) :
    Calls Tryz.prog 68 #[v, .func (.func 69) #[] #[.pointer (some ⟨b, 0, none⟩)]] w (DelO F B sq l w) := by
  have h' := h
  obtain ⟨css, Fs, h1, -⟩ := h'
  rcases h1.2 with ⟨q, hz⟩ | ⟨g, cap', cur, q, -⟩
  · obtain rfl : l = [] := List.eq_nil_of_length_eq_zero hz
    subst q
    refine (delF_nil _ w).mono ?_
    rintro e w' ⟨rfl, rfl⟩
    exact ⟨⟨_, rfl, SlIs.nil⟩, Below.refl _ _, Nat.le_refl _, fun _ _ _ => rfl⟩
  · subst q
    exact del_row l g _ _ F B sq b w h nd hB hb hbF hc
theorem ack_no {p : Par} {sq : Int} (h : sq < 0 ∨ p.out ≤ sq) : ackC p sq = (p, 31) := by unfold ackC; rw [if_pos h]
theorem ack_yes {p : Par} {sq : Int} (h : ¬ (sq < 0 ∨ p.out ≤ sq)) : ackC p sq = ({ p with wt := p.wt.filter fun f => decide (sq < f.sq) }, 0) := by unfold ackC; rw [if_neg h]
set_option maxRecDepth 100000 in
set_option maxHeartbeats 4000000 in
theorem ack_gen (S : Nat → Prop) (p : Par) (sq : Int) (vw vo vt : Value) (w : World) (hsp : ParOk S w p vw vo vt) (hss : ∀ k, S k → k < w.heap.size) (hs : SmallP p) (hq64 : i64ok sq) :
    Calls Tryz.prog 54 #[.agg #[.string p.nm, .int .i64 p.out, .int .i64 p.inn, vw, vo, vt], .int .i64 sq] w fun e w' => PEs S w w' e (ackC p sq) ∧ Below w.heap.size w w' := by
  have h : ParOk (· < w.heap.size) w p vw vo vt := hsp.keep hss (SameOn.refl _ _)
  have HP := Lib.hid h
  have HPS := Lib.hid hsp
  have HSS := Lib.hid hss
  have HS := Lib.hid hs
  obtain ⟨aw, cw, bw, ow, rfl, hw1, hw2, -⟩ := id h.wt
  obtain ⟨ao, co, bo, oo, rfl, ho1, ho2, -⟩ := id h.ours
  obtain ⟨at', ct, bt, ot, rfl, ht1, ht2, -⟩ := id h.thr
  unfold i64ok at hq64
  clear h hs hsp hss
  by_cases q1 : sq < 0
  · have HC := Lib.hid (ack_no (p := p) (.inl q1))
    go_enter Tryz.func54, Tryz.ntmps54
    go_wp2_with (fail)
    refine bodyPost_ret (v := .tuple #[.agg #[.string p.nm, .int .i64 p.out, .int .i64 p.inn, .slice aw p.wt.length cw, .slice ao p.ours.length co, .slice at' p.thr.length ct], .int .i64 31]) (by simp [results, Tryz.results54, go_sem]) rfl ⟨pes_mk HC.out (parOk_stepS HPS.out HSS.out ?_), ?_⟩
    · (repeat (first | (with_reducible exact Below.refl _ _) | (with_reducible apply bl_drewN) | (with_reducible apply bl_alloc) | ((with_reducible refine bl_set ?_ _ ?_); rotate_left; focus (first | exact Nat.le_refl _ | (simp; done) | (simp; omega)))))
    · (repeat (first | (with_reducible exact Below.refl _ _) | (with_reducible apply bl_drewN) | (with_reducible apply bl_alloc) | ((with_reducible refine bl_set ?_ _ ?_); rotate_left; focus (first | exact Nat.le_refl _ | (simp; done) | (simp; omega)))))
  have q1' : decide (sq < 0) = false := by simpa using q1
  by_cases q2 : p.out ≤ sq
  · have HC := Lib.hid (ack_no (p := p) (.inr q2))
    clear q1
    go_enter Tryz.func54, Tryz.ntmps54
    go_wp2_with (fail)
    refine bodyPost_ret (v := .tuple #[.agg #[.string p.nm, .int .i64 p.out, .int .i64 p.inn, .slice aw p.wt.length cw, .slice ao p.ours.length co, .slice at' p.thr.length ct], .int .i64 31]) (by simp [results, Tryz.results54, go_sem]) rfl ⟨pes_mk HC.out (parOk_stepS HPS.out HSS.out ?_), ?_⟩
    · (repeat (first | (with_reducible exact Below.refl _ _) | (with_reducible apply bl_drewN) | (with_reducible apply bl_alloc) | ((with_reducible refine bl_set ?_ _ ?_); rotate_left; focus (first | exact Nat.le_refl _ | (simp; done) | (simp; omega)))))
    · (repeat (first | (with_reducible exact Below.refl _ _) | (with_reducible apply bl_drewN) | (with_reducible apply bl_alloc) | ((with_reducible refine bl_set ?_ _ ?_); rotate_left; focus (first | exact Nat.le_refl _ | (simp; done) | (simp; omega)))))
  have q2' : decide (p.out ≤ sq) = false := by simpa using q2
  have HC := Lib.hid (ack_yes (p := p) (sq := sq) (by omega))
  clear q1 q2
  go_enter Tryz.func54, Tryz.ntmps54
  go_wp2_with (fail)
  refine (partner_any p _ _ _ _ (HP.out.step (bl_alloc (bl_alloc (bl_alloc (Below.refl _ _) _) _) _)) HS.out).mono ?_
  rintro e w2 ⟨vw', vo', vt', rfl, hown, hb2⟩
  obtain ⟨⟨aw', cw', rfl, hw1', hw2'⟩, ⟨ao', co', rfl, ho1', ho2'⟩, ⟨at2, ct2, rfl, ht1', ht2'⟩⟩ := hown.form
  have m0 := Go.Tw.Below.at_old hb2 (alloc3_0 w _ _ _)
  have m1 := Go.Tw.Below.at_old hb2 (alloc3_1 w _ _ _)
  have m2 := Go.Tw.Below.at_old hb2 (alloc3_2 w _ _ _)
  have HW2 := Lib.hid (bl_trans (bl_alloc (bl_alloc (bl_alloc (Below.refl w.heap.size w) _) _) _) hb2)
  have hsz2 : w.heap.size + 3 ≤ w2.heap.size := by have := hb2.size; simpa using this
  have hown2 : OwnP (w.heap.size + 3) w2 p (.slice aw' p.wt.length cw') (.slice ao' p.ours.length co') (.slice at2 p.thr.length ct2) := hown.low (by simp)
  clear hown hb2
  obtain ⟨c0, c1, c2, c3, c4, c5, cf⟩ := blk6' m0
  obtain ⟨s0, sf⟩ := blk1 m1
  obtain ⟨d0, d1, d2, d3, d4, d5, df⟩ := blk6' m2
  go_upto_region 4 with (fail)
  obtain ⟨wb, hwb⟩ : ∃ wb, ((((((w2.setCell ⟨w.heap.size, 0, none⟩ (.string p.nm)).setCell ⟨w.heap.size, 1, none⟩ (.int .i64 p.out)).setCell ⟨w.heap.size, 2, none⟩ (.int .i64 p.inn)).setCell ⟨w.heap.size, 3, none⟩ (.slice aw' p.wt.length cw')).setCell ⟨w.heap.size, 4, none⟩ (.slice ao' p.ours.length co')).setCell ⟨w.heap.size, 5, none⟩ (.slice at2 p.thr.length ct2)) = wb := ⟨_, rfl⟩
  have hb0 := (set6_same (x0 := .string p.nm) (x1 := .int .i64 p.out) (x2 := .int .i64 p.inn) (x3 := .slice aw' p.wt.length cw') (x4 := .slice ao' p.ours.length co') (x5 := .slice at2 p.thr.length ct2) m0)
  rw [hwb] at hb0 ⊢
  have hne : ∀ k, k ≠ w.heap.size → wb.heap[k]? = w2.heap[k]? := fun k hk => by rw [← hwb]; exact set6_ne hk
  have hszb : wb.heap.size = w2.heap.size := by rw [← hwb]; simp
  have HBX := Lib.hid hb0
  have HWB := Lib.hid (show Below w.heap.size w wb by rw [← hwb]; exact bl_set (bl_set (bl_set (bl_set (bl_set (bl_set HW2.out _ (Nat.le_refl _)) _ (Nat.le_refl _)) _ (Nat.le_refl _)) _ (Nat.le_refl _)) _ (Nat.le_refl _)) _ (Nat.le_refl _))
  have HFB := Lib.hid ((hne (w.heap.size + 1) (by omega)).trans m1)
  have HRB := Lib.hid ((hne (w.heap.size + 1 + 1) (by omega)).trans m2)
  have hown3 := hown2.same (w' := wb) (fun k h1 _ => hne k (by omega))
  clear hwb hne m0 m1 m2 hb0 c0 c1 c2 c3 c4 c5 cf s0 sf d0 d1 d2 d3 d4 d5 df hown2
  obtain ⟨c0, c1, c2, c3, c4, c5, cf⟩ := blk6' HBX.out
  obtain ⟨s0, sf⟩ := blk1 HFB.out
  obtain ⟨F1, F2, F3, h1, h2, h3, n1, n2, n3, b1, b2, b3, d12, d13, d23⟩ := hown3
  have hnF : ∀ k, k < w.heap.size + 3 → k ∉ F1 := fun k hk hm => by have := b1 k hm; omega
  have HDL := Lib.hid (del_any p.wt _ F1 (w.heap.size + 3) sq (w.heap.size + 1) wb h1 n1 b1 (by omega) (hnF _ (by omega)) s0)
  have HK2 := Lib.hid (show ∀ w', (∀ k, k < wb.heap.size → k ∉ F1 → w'.heap[k]? = wb.heap[k]?) → SlIs tRec (fun k => w.heap.size + 3 ≤ k ∧ k < wb.heap.size) w' (.slice ao' p.ours.length co') p.ours from fun w' hw => (h2.keep (fun b hb => hw b (h2.lt b hb) (fun hb' => d12 b hb' hb))).sl.keep (fun k hk => ⟨b2 k hk, h2.lt k hk⟩) (SameOn.refl _ _))
  have HK3 := Lib.hid (show ∀ w', (∀ k, k < wb.heap.size → k ∉ F1 → w'.heap[k]? = wb.heap[k]?) → SlIs tRec (fun k => w.heap.size + 3 ≤ k ∧ k < wb.heap.size) w' (.slice at2 p.thr.length ct2) p.thr from fun w' hw => (h3.keep (fun b hb => hw b (h3.lt b hb) (fun hb' => d13 b hb' hb))).sl.keep (fun k hk => ⟨b3 k hk, h3.lt k hk⟩) (SameOn.refl _ _))
  have HL1 := Lib.hid (show ∀ k ∈ F1, w.heap.size + 3 ≤ k ∧ k < wb.heap.size from fun k hk => ⟨b1 k hk, h1.lt k hk⟩)
  have HNF := Lib.hid hnF
  clear h1 h2 h3 n1 n2 n3 b1 b2 b3 d12 d13 d23 hnF
  go_wp2_with (
    go_at_call 68
    refine HDL.out.mono ?_
    rintro e w3 ⟨⟨v', rfl, hsl⟩, hbl, hsz3, hoth⟩
    obtain ⟨a3, c3', _, _, rfl, -⟩ := id hsl
    have HSL := Lib.hid (SlIs.keep (S' := fun k => w.heap.size + 3 ≤ k ∧ k < wb.heap.size) hsl HL1.out (SameOn.refl _ _))
    have HOT := Lib.hid hoth
    have HW3 := Lib.hid (HWB.out.trans (hbl.mono (by omega)))
    have g0 := (hoth w.heap.size (by omega) (HNF.out _ (by omega))).trans HBX.out
    have g2 := (hoth (w.heap.size + 1 + 1) (by omega) (HNF.out _ (by omega))).trans HRB.out
    obtain ⟨x0, x1, x2, x3, x4, x5, xf⟩ := blk6' g0
    obtain ⟨d0, d1, d2, d3, d4, d5, df⟩ := blk6' g2
    clear hsl hbl hoth g0 g2)
  have HFIN := Lib.hid (show ParOk (fun k => w.heap.size + 3 ≤ k ∧ k < wb.heap.size) w3 { p with wt := p.wt.filter fun f => decide (sq < f.sq) } _ (.slice ao' p.ours.length co') (.slice at2 p.thr.length ct2) from ⟨HP.out.nm, HP.out.out, HP.out.inn, HSL.out, HK2.out _ HOT.out, HK3.out _ HOT.out⟩)
  refine bodyPost_ret (v := .tuple #[.agg #[.string p.nm, .int .i64 p.out, .int .i64 p.inn, .slice a3 (p.wt.filter fun f => decide (sq < f.sq)).length c3', .slice ao' p.ours.length co', .slice at2 p.thr.length ct2], .int .i64 0]) (by simp [results, Tryz.results54, go_sem, d0, d1, d2, d3, d4, d5]) rfl ⟨pes_mk (p := { p with wt := p.wt.filter fun f => decide (sq < f.sq) }) HC.out (HFIN.out.keep (fun k hk => ?_) ?_), ?_⟩
  · refine .inr ⟨by omega, ?_⟩
    have := hk.2
    simp
    omega
  · (repeat (first | (with_reducible exact SameOn.refl _ _) | (with_reducible exact SameOn.refl _ _) | ((with_reducible refine SameOn.set ?_ ?_ _); rotate_left; focus (first | (simp; done) | (simp; omega))) | (with_reducible apply SameOn.drewN)))
  · (repeat (first | (with_reducible exact HW3.out) | (with_reducible apply bl_drewN) | (with_reducible apply bl_alloc) | ((with_reducible refine bl_set ?_ _ ?_); rotate_left; focus (first | exact Nat.le_refl _ | (simp; done) | (simp; omega)))))
theorem ack_any (p : Par) (sq : Int) (vw vo vt : Value) (w : World) (h : ParOk (· < w.heap.size) w p vw vo vt) (hs : SmallP p) (hq64 : i64ok sq) :
    Calls Tryz.prog 54 #[.agg #[.string p.nm, .int .i64 p.out, .int .i64 p.inn, vw, vo, vt], .int .i64 sq] w fun e w' => PE w' e (ackC p sq) ∧ Below w.heap.size w w' :=
  (ack_gen (· < w.heap.size) p sq vw vo vt w h (fun _ hk => hk) hs hq64).mono fun _ _ ⟨h1, h2⟩ => ⟨h1.pe h2, h2⟩
set_option maxHeartbeats 1000000 in
theorem resend_any (p : Par) (vw vo vt : Value) (w : World) (h : ParOk (· < w.heap.size) w p vw vo vt) (hs : SmallP p) :
    Calls Tryz.prog 26 #[.agg #[.string p.nm, .int .i64 p.out, .int .i64 p.inn, vw, vo, vt]] w fun e w' => (∃ v', e = .returned v' ∧ SlIs tFil (· < w'.heap.size) w' v' p.wt) ∧ Below w.heap.size w w' := by
  have HP := Lib.hid h
  have HS := Lib.hid hs
  obtain ⟨aw, cw, bw, ow, rfl, -⟩ := id h.wt
  obtain ⟨ao, co, bo, oo, rfl, -⟩ := id h.ours
  obtain ⟨at', ct, bt, ot, rfl, -⟩ := id h.thr
  clear h hs
  go_enter Tryz.func26, Tryz.ntmps26
  go_wp2_with (fail)
  refine (files_any p.wt _ _ (HP.out.wt.step (bl_alloc (Below.refl _ _) _)) (Nat.le_trans HS.out.wt (by decide)) (fun f hf => Nat.le_trans (HS.out.rs f hf) (by decide))).mono ?_
  rintro e w1 ⟨vw', rfl, hn1, hb1⟩
  have HN := Lib.hid hn1.sl'
  have HB := Lib.hid (bl_trans (bl_alloc (Below.refl w.heap.size w) _) hb1)
  clear hn1 hb1
  go_wp2_with (fail)
  go_ret
  exact ⟨⟨_, rfl, HN.out⟩, HB.out⟩
end Go.Proofs.YtmjbbpappigngaaGreat
