/-
  Layer 43 (exchange): the walk of the reference's copy of a partner.
-/
import Derived.Test.YtmjbbpappigngaaGreatExcPart
namespace Go.Proofs.YtmjbbpappigngaaGreat
open Go.RowKit Go.Tw Go.Tw.Exc
theorem keepS {w : World} {a b : Addr} {v u : Value} (h : w.cell? b = some u) (hne : b.block ≠ a.block) : (w.setCell a v).cell? b = some u := by
  exact (World.cell?_of_block (Below.heap_setCell _ _ _ _ hne)).trans h
theorem PFin.of345 {w wa w2 w3 w4 : World} {p : Par} {p0 p1 : Nat} {vw vo vt vw0 vo0 vt0 : Value} (hp0 : w.heap.size ≤ p0) (_ : w.heap.size ≤ p1) (hne0 : p0 ≠ p1) (h0 : p0 < wa.heap.size) (h1 : p1 < wa.heap.size) (hW : Below w.heap.size w wa) (hws : w.heap.size + 2 ≤ wa.heap.size) (hbx : wa.heap[p0]? = some (.cells (pCells p vw0 vo0 vt0) 29 (0, 0)))
    (hrs : wa.heap[p1]? = some (.cells #[.string ByteArray.empty, .int .i64 0, .int .i64 0, .slice none 0 0, .slice none 0 0, .slice none 0 0] 29 (0, 0)))
    (n1 : NewL tFil 45 wa.heap.size w2 vw p.wt) (b1 : Below wa.heap.size wa w2) (n2 : NewL tRec 49 w2.heap.size w3 vo p.ours) (b2 : Below w2.heap.size w2 w3) (n3 : NewL tRec 49 w3.heap.size w4 vt p.thr) (b3 : Below w3.heap.size w3 w4) :
    PFin w p p0 p1 vw vo vt (((w4.setCell ⟨p0, 3, none⟩ vw).setCell ⟨p0, 4, none⟩ vo).setCell ⟨p0, 5, none⟩ vt) := by
  have s1 := b1.size
  have s2 := b2.size
  have s3 := b3.size
  have hne : ∀ k, k ≠ p0 → (((w4.setCell ⟨p0, 3, none⟩ vw).setCell ⟨p0, 4, none⟩ vo).setCell ⟨p0, 5, none⟩ vt).heap[k]? = w4.heap[k]? := fun k hk => (Below.heap_setCell _ _ _ _ hk).trans ((Below.heap_setCell _ _ _ _ hk).trans (Below.heap_setCell _ _ _ _ hk))
  have e3 : ∀ k, k < wa.heap.size → w4.heap[k]? = wa.heap[k]? := fun k hk => (b3.block k (by omega)).trans ((b2.block k (by omega)).trans (b1.block k hk))
  refine ⟨?_, ?_, ?_, ?_⟩
  · exact heap_setCell_same _ _ 5 _ _ vt (heap_setCell_same _ _ 4 _ _ vo (heap_setCell_same _ _ 3 _ _ vw ((e3 _ h0).trans hbx)))
  · exact (hne _ (fun e => hne0 e.symm)).trans ((e3 _ h1).trans hrs)
  · exact bl_set (bl_set (bl_set (bl_trans (bl_trans (bl_trans hW b1) b2) b3) _ hp0) _ hp0) _ hp0
  · exact (OwnP.mk3 n1 s1 n2 b2 n3 b3 (fun k h1 _ => hne k (by omega))).low hws
set_option maxRecDepth 100000 in
set_option maxHeartbeats 8000000 in
theorem copiedP_any (p : Par) (vw vo vt : Value) (w : World) (h : ParOk (· < w.heap.size) w p vw vo vt) (hs : SmallP p) :
    Calls Tryz.prog 50 #[.agg #[.string p.nm, .int .i64 p.out, .int .i64 p.inn, vw, vo, vt]] w
      fun e w' => ∃ vw' vo' vt', e = .returned (.agg #[.string p.nm, .int .i64 p.out, .int .i64 p.inn, vw', vo', vt']) ∧ OwnP w.heap.size w' p vw' vo' vt' ∧ Below w.heap.size w w' := by
  have HP := Lib.hid h
  have HS := Lib.hid hs
  obtain ⟨aw, cw, bw, ow, rfl, -⟩ := id h.wt
  obtain ⟨ao, co, bo, oo, rfl, -⟩ := id h.ours
  obtain ⟨at', ct, bt, ot, rfl, -⟩ := id h.thr
  clear h hs
  go_enter Tryz.func50, Tryz.ntmps50
  go_upto_region 2 with (fail)
  have n0 := alloc3_0 w (.cells #[.string p.nm, .int .i64 p.out, .int .i64 p.inn, .slice aw p.wt.length cw, .slice ao p.ours.length co, .slice at' p.thr.length ct] 29) (.cells #[.string ⟨#[]⟩, .int .i64 0, .int .i64 0, .slice none 0 0, .slice none 0 0, .slice none 0 0] 29) (.cells #[.string p.nm, .int .i64 p.out, .int .i64 p.inn, .slice aw p.wt.length cw, .slice ao p.ours.length co, .slice at' p.thr.length ct] 29)
  have n1 := alloc3_1 w (.cells #[.string p.nm, .int .i64 p.out, .int .i64 p.inn, .slice aw p.wt.length cw, .slice ao p.ours.length co, .slice at' p.thr.length ct] 29) (.cells #[.string ⟨#[]⟩, .int .i64 0, .int .i64 0, .slice none 0 0, .slice none 0 0, .slice none 0 0] 29) (.cells #[.string p.nm, .int .i64 p.out, .int .i64 p.inn, .slice aw p.wt.length cw, .slice ao p.ours.length co, .slice at' p.thr.length ct] 29)
  have n2 := alloc3_2 w (.cells #[.string p.nm, .int .i64 p.out, .int .i64 p.inn, .slice aw p.wt.length cw, .slice ao p.ours.length co, .slice at' p.thr.length ct] 29) (.cells #[.string ⟨#[]⟩, .int .i64 0, .int .i64 0, .slice none 0 0, .slice none 0 0, .slice none 0 0] 29) (.cells #[.string p.nm, .int .i64 p.out, .int .i64 p.inn, .slice aw p.wt.length cw, .slice ao p.ours.length co, .slice at' p.thr.length ct] 29)
  obtain ⟨wa, hwa⟩ : ∃ wa, ((w.alloc (.cells #[.string p.nm, .int .i64 p.out, .int .i64 p.inn, .slice aw p.wt.length cw, .slice ao p.ours.length co, .slice at' p.thr.length ct] 29)).alloc (.cells #[.string ⟨#[]⟩, .int .i64 0, .int .i64 0, .slice none 0 0, .slice none 0 0, .slice none 0 0] 29)).alloc (.cells #[.string p.nm, .int .i64 p.out, .int .i64 p.inn, .slice aw p.wt.length cw, .slice ao p.ours.length co, .slice at' p.thr.length ct] 29) = wa := ⟨_, rfl⟩
  have hsz : wa.heap.size = w.heap.size + 1 + 1 + 1 := by rw [← hwa]; simp
  have HW := Lib.hid (show Below w.heap.size w wa by rw [← hwa]; exact bl_alloc (bl_alloc (bl_alloc (Below.refl _ _) _) _) _)
  rw [hwa] at n0 n1 n2 ⊢
  clear hwa
  obtain ⟨c0, c1, c2, c3, c4, c5, cf⟩ := blk6' n0
  obtain ⟨e0, e1, e2, e3, e4, e5, ef⟩ := blk6' n2
  have HN0 := Lib.hid n0
  have HN1 := Lib.hid n1
  have HN2 := Lib.hid n2
  clear n0 n1 n2
  go_cut [3] (fun v wx => ∃ aw2 cw2 ao2 co2 at2 ct2, v = .pointer (some ⟨w.heap.size + 1 + 1, 0, none⟩) ∧ PFin w p (w.heap.size + 1 + 1) (w.heap.size + 1) (.slice aw2 p.wt.length cw2) (.slice ao2 p.ours.length co2) (.slice at2 p.thr.length ct2) wx)
  case first =>
    go_region_held3 (fun w' => w'.cell? ⟨w.heap.size, 3, none⟩ = some (.slice aw p.wt.length cw) ∧ w'.cell? ⟨w.heap.size, 4, none⟩ = some (.slice ao p.ours.length co) ∧ w'.cell? ⟨w.heap.size, 5, none⟩ = some (.slice at' p.thr.length ct)) (first | ((refine ⟨?_, ?_, ?_⟩) <;> (repeat (first | assumption | (refine keepS ?_ (by dsimp only; omega)))) <;> done) | go_keep)
      (first
        | (go_at_call 49
           refine (records_new p.thr _ _ (HP.out.thr.step (bl_trans (bl_trans HW.out HW2.out) HW3.out)) (Nat.le_trans HS.out.thr (by decide))).mono ?_
           rintro e w4 ⟨vt', rfl, hn4, hb4⟩
           obtain ⟨at2, ct2, rfl, -⟩ := hn4.form
           have HN4 := Lib.hid hn4
           have HW4 := Lib.hid hb4
           have HA4 := (show Below wa.heap.size wa w4 from bl_trans (bl_trans HW2.out HW3.out) hb4)
           obtain ⟨q0, q1, q2, q3, q4, q5, qf⟩ := blk6' ((HA4.block _ (by omega)).trans HN0.out)
           obtain ⟨r0, r1, r2, r3, r4, r5, rf⟩ := blk6' ((HA4.block _ (by omega)).trans HN2.out)
           clear hn4 hb4 HA4)
        | (go_at_call 49
           refine (records_new p.ours _ _ (HP.out.ours.step (bl_trans HW.out HW2.out)) (Nat.le_trans HS.out.ours (by decide))).mono ?_
           rintro e w3 ⟨vo', rfl, hn3, hb3⟩
           obtain ⟨ao2, co2, rfl, -⟩ := hn3.form
           have HN3 := Lib.hid hn3
           have HW3 := Lib.hid hb3
           have HA3 := (show Below wa.heap.size wa w3 from bl_trans HW2.out hb3)
           obtain ⟨q0, q1, q2, q3, q4, q5, qf⟩ := blk6' ((HA3.block _ (by omega)).trans HN0.out)
           clear hn3 hb3 HA3)
        | (go_at_call 51
           refine (filesR_any p.wt _ _ (HP.out.wt.step (Below.drew HW.out)) (Nat.le_trans HS.out.wt (by decide)) (fun f hf => Nat.le_trans (HS.out.rs f hf) (by decide))).mono ?_
           rintro e w2 ⟨vw', rfl, hn2, hb2⟩
           obtain ⟨aw2, cw2, rfl, -⟩ := hn2.form
           have HNW := Lib.hid (show NewL tFil 45 wa.heap.size w2 (.slice aw2 p.wt.length cw2) p.wt from hn2)
           have HW2 := Lib.hid (show Below wa.heap.size wa w2 from Below.trans (b := wa.drew) (Below.drew (Below.refl _ _)) hb2)
           obtain ⟨q0, q1, q2, q3, q4, q5, qf⟩ := blk6' ((HW2.out.block _ (by omega)).trans HN0.out)
           clear hn2 hb2))
    all_goals
      go_wp2_with (fail)
      go_meet
      exact ⟨_, _, _, _, _, _, rfl, PFin.of345 (by omega) (by omega) (by omega) (by omega) (by omega) HW.out (by omega) HN2.out HN1.out HNW.out HW2.out HN3.out HW3.out HN4.out HW4.out⟩
  case rest =>
    clear HW HN0 HN1 HN2 c0 c1 c2 c3 c4 c5 cf e0 e1 e2 e3 e4 e5 ef hsz
    obtain ⟨aw2, cw2, ao2, co2, at2, ct2, rfl, hf⟩ := hcut
    have HF := Lib.hid hf
    obtain ⟨c0, c1, c2, c3, c4, c5, cf⟩ := blk6' hf.box
    obtain ⟨d0, d1, d2, d3, d4, d5, df⟩ := blk6' hf.res
    clear hf
    go_wp2_with (fail)
    refine bodyPost_ret (v := .agg #[.string p.nm, .int .i64 p.out, .int .i64 p.inn, .slice aw2 p.wt.length cw2, .slice ao2 p.ours.length co2, .slice at2 p.thr.length ct2]) (by simp [results, Tryz.results50, go_sem, d0, d1, d2, d3, d4, d5]) rfl ⟨_, _, _, rfl, ?_, ?_⟩
    · refine (HF.out.own.on ?_).low (by omega)
      (repeat (first | (with_reducible exact SameOn.refl _ _) | (with_reducible exact SameOn.refl _ _) | ((with_reducible refine SameOn.set ?_ ?_ _); rotate_left; focus (first | (simp; done) | (simp; omega))) | (with_reducible apply SameOn.drewN)))
    · (repeat (first | (with_reducible exact HF.out.bel) | (with_reducible apply bl_drewN) | (with_reducible apply bl_alloc) | ((with_reducible refine bl_set ?_ _ ?_); rotate_left; focus (first | exact Nat.le_refl _ | (simp; done) | (simp; omega)))))
end Go.Proofs.YtmjbbpappigngaaGreat
