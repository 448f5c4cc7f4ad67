/-
  Layer 43 (exchange): the walks of the copies of partners.
-/
import Derived.Test.YtmjbbpappigngaaGreatExcCopy
import Derived.Deep.DeepCutAuto
import Derived.Deep.RegionHeld3
import Derived.Deep.RegionWith
import Derived.WalkMore
import Derived.Outline
namespace Go.Tw
theorem blk6' {w : World} {g : Nat} {a b c d e f : Value} {t : TypeId} (h : w.heap[g]? = some (.cells #[a, b, c, d, e, f] t (0, 0))) : w.cell? ⟨g, 0, none⟩ = some a ∧ w.cell? ⟨g, 1, none⟩ = some b ∧ w.cell? ⟨g, 2, none⟩ = some c ∧ w.cell? ⟨g, 3, none⟩ = some d ∧ w.cell? ⟨g, 4, none⟩ = some e ∧ w.cell? ⟨g, 5, none⟩ = some f ∧ ∀ j, w.frozen? ⟨g, j, none⟩ = false :=
  ⟨cell_of_row _ _ 0 _ _ _ h, cell_of_row _ _ 1 _ _ _ h, cell_of_row _ _ 2 _ _ _ h, cell_of_row _ _ 3 _ _ _ h, cell_of_row _ _ 4 _ _ _ h, cell_of_row _ _ 5 _ _ _ h, fun j => frozen_of_row _ _ j _ _ h⟩
end Go.Tw
namespace Go.Proofs.YtmjbbpappigngaaGreat
open Go.RowKit Go.Tw Go.Tw.Exc
structure SmallP (p : Par) : Prop where
  wt : p.wt.length ≤ 100000
  rs : ∀ f ∈ p.wt, f.rs.length ≤ 100000
  ours : p.ours.length ≤ 100000
  thr : p.thr.length ≤ 100000
/-- a partner's copy: each of its three slices in blocks of its own, all above B -/
def OwnP (B : Nat) (w : World) (p : Par) (vw vo vt : Value) : Prop := ∃ F1 F2 F3, OwnL tFil 45 F1 w vw p.wt ∧ OwnL tRec 49 F2 w vo p.ours ∧ OwnL tRec 49 F3 w vt p.thr ∧ F1.Nodup ∧ F2.Nodup ∧ F3.Nodup ∧
  (∀ b ∈ F1, B ≤ b) ∧ (∀ b ∈ F2, B ≤ b) ∧ (∀ b ∈ F3, B ≤ b) ∧ (∀ b ∈ F1, b ∉ F2) ∧ (∀ b ∈ F1, b ∉ F3) ∧ (∀ b ∈ F2, b ∉ F3)
theorem OwnP.ok {B : Nat} {w : World} {p : Par} {vw vo vt a b c : Value} {S : Nat → Prop} {w0 : World} (h : OwnP B w p vw vo vt) (h0 : ParOk S w0 p a b c) : ParOk (fun k => B ≤ k ∧ k < w.heap.size) w p vw vo vt := by
  obtain ⟨F1, F2, F3, h1, h2, h3, -, -, -, b1, b2, b3, -⟩ := h
  exact ⟨h0.nm, h0.out, h0.inn, h1.sl.keep (fun k hk => ⟨b1 k hk, h1.lt k hk⟩) (SameOn.refl _ _), h2.sl.keep (fun k hk => ⟨b2 k hk, h2.lt k hk⟩) (SameOn.refl _ _), h3.sl.keep (fun k hk => ⟨b3 k hk, h3.lt k hk⟩) (SameOn.refl _ _)⟩
theorem OwnP.same {B : Nat} {w w' : World} {p : Par} {vw vo vt : Value} (h : OwnP B w p vw vo vt) (hw : ∀ k, B ≤ k → k < w.heap.size → w'.heap[k]? = w.heap[k]?) : OwnP B w' p vw vo vt := by
  obtain ⟨F1, F2, F3, h1, h2, h3, n1, n2, n3, b1, b2, b3, r⟩ := h
  exact ⟨F1, F2, F3, h1.keep (fun b hb => hw b (b1 b hb) (h1.lt b hb)), h2.keep (fun b hb => hw b (b2 b hb) (h2.lt b hb)), h3.keep (fun b hb => hw b (b3 b hb) (h3.lt b hb)), n1, n2, n3, b1, b2, b3, r⟩
theorem OwnP.on {B : Nat} {w w' : World} {p : Par} {vw vo vt : Value} (h : OwnP B w p vw vo vt) (hw : SameOn (fun k => B ≤ k ∧ k < w.heap.size) w w') : OwnP B w' p vw vo vt := h.same (fun k h1 h2 => hw k ⟨h1, h2⟩)
theorem OwnP.low {B B' : Nat} {w : World} {p : Par} {vw vo vt : Value} (h : OwnP B w p vw vo vt) (hB : B' ≤ B) : OwnP B' w p vw vo vt := by
  obtain ⟨F1, F2, F3, h1, h2, h3, n1, n2, n3, b1, b2, b3, r⟩ := h
  exact ⟨F1, F2, F3, h1, h2, h3, n1, n2, n3, fun b hb => Nat.le_trans hB (b1 b hb), fun b hb => Nat.le_trans hB (b2 b hb), fun b hb => Nat.le_trans hB (b3 b hb), r⟩
theorem OwnP.form {B : Nat} {w : World} {p : Par} {vw vo vt : Value} (h : OwnP B w p vw vo vt) : (∃ a c, vw = .slice a p.wt.length c ∧ p.wt.length ≤ c ∧ c ≤ maxLen) ∧ (∃ a c, vo = .slice a p.ours.length c ∧ p.ours.length ≤ c ∧ c ≤ maxLen) ∧ (∃ a c, vt = .slice a p.thr.length c ∧ p.thr.length ≤ c ∧ c ≤ maxLen) := by
  obtain ⟨F1, F2, F3, h1, h2, h3, -⟩ := h
  exact ⟨h1.form, h2.form, h3.form⟩
def pCells (p : Par) (a b c : Value) : Array Value := #[.string p.nm, .int .i64 p.out, .int .i64 p.inn, a, b, c]
/-- three slices made one behind the other -/
theorem OwnP.mk3 {w1 w2 w3 wf : World} {p : Par} {vw vo vt : Value} {B : Nat} (n1 : NewL tFil 45 B w1 vw p.wt) (hB : B ≤ w1.heap.size) (n2 : NewL tRec 49 w1.heap.size w2 vo p.ours) (b2 : Below w1.heap.size w1 w2) (n3 : NewL tRec 49 w2.heap.size w3 vt p.thr) (b3 : Below w2.heap.size w2 w3)
    (hf : ∀ k, B ≤ k → k < w3.heap.size → wf.heap[k]? = w3.heap[k]?) : OwnP B wf p vw vo vt := by
  obtain ⟨F1, h1, d1, l1⟩ := n1
  obtain ⟨F2, h2, d2, l2⟩ := n2
  obtain ⟨F3, h3, d3, l3⟩ := n3
  have t1 := h1.lt
  have t2 := h2.lt
  have t3 := h3.lt
  have s2 := b2.size
  have s3 := b3.size
  refine ⟨F1, F2, F3, h1.keep fun b hb => ?_, h2.keep fun b hb => ?_, h3.keep fun b hb => hf b (by have := l3 b hb; omega) (t3 b hb), d1, d2, d3, l1, fun b hb => by have := l2 b hb; omega, fun b hb => by have := l3 b hb; omega, fun b hb hb' => by have := t1 b hb; have := l2 b hb'; omega, fun b hb hb' => by have := t1 b hb; have := l3 b hb'; omega, fun b hb hb' => by have := t2 b hb; have := l3 b hb'; omega⟩
  · have := t1 b hb
    exact (hf b (l1 b hb) (by omega)).trans ((b3.block b (by omega)).trans (b2.block b (by omega)))
  · have := t2 b hb
    exact (hf b (by have := l2 b hb; omega) (by omega)).trans (b3.block b (by omega))
/-- what the copy has made, ahead of its last step: box p0 holds it, block p1 waits for the result -/
structure PFin (w : World) (p : Par) (p0 p1 : Nat) (vw vo vt : Value) (wf : World) : Prop where
  box : wf.heap[p0]? = some (.cells (pCells p vw vo vt) 29 (0, 0))
  res : wf.heap[p1]? = some (.cells #[.string ByteArray.empty, .int .i64 0, .int .i64 0, .slice none 0 0, .slice none 0 0, .slice none 0 0] 29 (0, 0))
  bel : Below w.heap.size w wf
  own : OwnP (w.heap.size + 2) wf p vw vo vt
theorem PFin.of45 {w wa w2 w3 : World} {p : Par} {p1 : Nat} {vw vo vt vo0 vt0 : Value} (hp1 : w.heap.size < p1) (hp2 : p1 < w.heap.size + 2) (hW : Below w.heap.size w wa) (hws : w.heap.size + 2 ≤ wa.heap.size) (hbx : wa.heap[w.heap.size]? = some (.cells (pCells p vw vo0 vt0) 29 (0, 0)))
    (hrs : wa.heap[p1]? = some (.cells #[.string ByteArray.empty, .int .i64 0, .int .i64 0, .slice none 0 0, .slice none 0 0, .slice none 0 0] 29 (0, 0)))
    (n1 : NewL tFil 45 (w.heap.size + 2) wa vw p.wt) (n2 : NewL tRec 49 wa.heap.size w2 vo p.ours) (b2 : Below wa.heap.size wa w2) (n3 : NewL tRec 49 w2.heap.size w3 vt p.thr) (b3 : Below w2.heap.size w2 w3) :
    PFin w p w.heap.size p1 vw vo vt ((w3.setCell ⟨w.heap.size, 4, none⟩ vo).setCell ⟨w.heap.size, 5, none⟩ vt) := by
  have s2 := b2.size
  have s3 := b3.size
  have hne : ∀ k, k ≠ w.heap.size → ((w3.setCell ⟨w.heap.size, 4, none⟩ vo).setCell ⟨w.heap.size, 5, none⟩ vt).heap[k]? = w3.heap[k]? := fun k hk => (Below.heap_setCell _ _ _ _ hk).trans (Below.heap_setCell _ _ _ _ hk)
  have e3 : ∀ k, k < wa.heap.size → w3.heap[k]? = wa.heap[k]? := fun k hk => (b3.block k (by omega)).trans (b2.block k hk)
  refine ⟨?_, ?_, ?_, ?_⟩
  · exact heap_setCell_same _ _ 5 _ _ vt (heap_setCell_same _ _ 4 _ _ vo ((e3 _ (by omega)).trans hbx))
  · exact (hne _ (by omega)).trans ((e3 _ (by omega)).trans hrs)
  · exact bl_set (bl_set (bl_trans (bl_trans hW b2) b3) _ (Nat.le_refl _)) _ (Nat.le_refl _)
  · exact OwnP.mk3 n1 hws n2 b2 n3 b3 (fun k h1 _ => hne k (by omega))
set_option maxRecDepth 100000 in
set_option maxHeartbeats 4000000 in
theorem partner_any (p : Par) (vw vo vt : Value) (w : World) (h : ParOk (· < w.heap.size) w p vw vo vt) (hs : SmallP p) :
    Calls Tryz.prog 57 #[.agg #[.string p.nm, .int .i64 p.out, .int .i64 p.inn, vw, vo, vt]] w
      fun e w' => ∃ vw' vo' vt', e = .returned (.agg #[.string p.nm, .int .i64 p.out, .int .i64 p.inn, vw', vo', vt']) ∧ OwnP w.heap.size w' p vw' vo' vt' ∧ Below w.heap.size w w' := by
  have HP := Lib.hid h
  have HS := Lib.hid hs
  obtain ⟨aw, cw, bw, ow, rfl, -⟩ := id h.wt
  obtain ⟨ao, co, bo, oo, rfl, -⟩ := id h.ours
  obtain ⟨at', ct, bt, ot, rfl, -⟩ := id h.thr
  clear h hs
  let W1 := (w.alloc (.cells #[.string p.nm, .int .i64 p.out, .int .i64 p.inn, .slice aw p.wt.length cw, .slice ao p.ours.length co, .slice at' p.thr.length ct] 29)).alloc (.cells #[.string ByteArray.empty, .int .i64 0, .int .i64 0, .slice none 0 0, .slice none 0 0, .slice none 0 0] 29)
  have b1 : Below w.heap.size w W1 := bl_alloc (bl_alloc (Below.refl _ _) _) _
  have hsz : W1.heap.size = w.heap.size + 2 := by simp [W1]
  go_enter Tryz.func57, Tryz.ntmps57
  go_wp2_with (fail)
  refine (files_any p.wt _ _ (HP.out.wt.step b1) (Nat.le_trans HS.out.wt (by decide)) (fun f hf => Nat.le_trans (HS.out.rs f hf) (by decide))).mono ?_
  rintro e w1 ⟨vw', rfl, hn1, hb1⟩
  have n0 : w1.heap[w.heap.size]? = _ := (hb1.block _ (by omega)).trans (heap_alloc2_old w _ _)
  have n1 : w1.heap[w.heap.size + 1]? = _ := (hb1.block _ (by omega)).trans (heap_alloc2_new w _ _)
  obtain ⟨aw', cw', rfl, -⟩ := hn1.form
  obtain ⟨c0, c1, c2, c3, c4, c5, cf⟩ := blk6' n0
  rw [hsz] at hn1
  have HW := Lib.hid (bl_set (p := ⟨w.heap.size, 3, none⟩) (bl_trans b1 hb1) (.slice aw' p.wt.length cw') (Nat.le_refl _))
  have HN1 := Lib.hid (hn1.same (w' := w1.setCell ⟨w.heap.size, 3, none⟩ (.slice aw' p.wt.length cw')) (fun k hk => Below.heap_setCell _ _ _ _ (by show k ≠ w.heap.size; have := hk.1; omega)))
  have HBX := Lib.hid (heap_setCell_same _ _ 3 _ _ (.slice aw' p.wt.length cw') n0)
  have HRS := Lib.hid ((Below.heap_setCell w1 ⟨w.heap.size, 3, none⟩ (.slice aw' p.wt.length cw') (w.heap.size + 1) (by show w.heap.size + 1 ≠ w.heap.size; omega)).trans n1)
  have hws : w.heap.size + 2 ≤ w1.heap.size := by have := hb1.size; omega
  clear hn1 hb1 n0 n1 b1 hsz
  clear W1
  go_upto_region 2 with (fail)
  obtain ⟨wa, hwa⟩ : ∃ wa, w1.setCell ⟨w.heap.size, 3, none⟩ (.slice aw' p.wt.length cw') = wa := ⟨_, rfl⟩
  rw [hwa] at HW HN1 HBX HRS ⊢
  have hwa2 : w.heap.size + 2 ≤ wa.heap.size := by rw [← hwa]; simpa using hws
  have HBX := Lib.hid (show wa.heap[w.heap.size]? = some (.cells (pCells p (.slice aw' p.wt.length cw') (.slice ao p.ours.length co) (.slice at' p.thr.length ct)) 29 (0, 0)) from HBX.out)
  clear hwa hws c0 c1 c2 c3 c4 c5 cf
  obtain ⟨c0, c1, c2, c3, c4, c5, cf⟩ := blk6' HBX.out
  go_cut [1] (fun v wx => ∃ ao2 co2 at2 ct2, v = .pointer (some ⟨w.heap.size, 0, none⟩) ∧ PFin w p w.heap.size (w.heap.size + 1) (.slice aw' p.wt.length cw') (.slice ao2 p.ours.length co2) (.slice at2 p.thr.length ct2) wx)
  case first =>
    go_region_with (first
        | (go_at_call 73
           refine (rClone_new p.thr _ _ (HP.out.thr.step (bl_trans HW.out HW2.out)) (Nat.le_trans HS.out.thr (by decide))).mono ?_
           rintro e w3 ⟨vt', rfl, hn3, hb3⟩
           obtain ⟨at2, ct2, rfl, -⟩ := hn3.form
           have HN3 := Lib.hid hn3
           have HB3 := Lib.hid hb3
           obtain ⟨e0, e1, e2, e3, e4, e5, ef⟩ := blk6' ((hb3.block _ (by have := HW2.out.size; omega)).trans ((HW2.out.block _ (by omega)).trans HBX.out))
           clear hn3 hb3)
        | (go_at_call 73
           refine (rClone_new p.ours _ _ (HP.out.ours.step (Below.drew HW.out)) (Nat.le_trans HS.out.ours (by decide))).mono ?_
           rintro e w2 ⟨vo', rfl, hn2, hb2⟩
           obtain ⟨ao2, co2, rfl, -⟩ := hn2.form
           have HN2 := Lib.hid (show NewL tRec 49 wa.heap.size w2 (.slice ao2 p.ours.length co2) p.ours from hn2)
           have HW2 := Lib.hid (show Below wa.heap.size wa w2 from Below.trans (b := wa.drew) (Below.drew (Below.refl _ _)) hb2)
           obtain ⟨d0, d1, d2, d3, d4, d5, df⟩ := blk6' ((HW2.out.block _ (by omega)).trans HBX.out)
           clear hn2 hb2))
    all_goals
      go_wp2_with (fail)
      go_meet
      exact ⟨_, _, _, _, rfl, PFin.of45 (by omega) (by omega) HW.out hwa2 HBX.out HRS.out HN1.out HN2.out HW2.out HN3.out HB3.out⟩
  case rest =>
    clear HW HN1 HBX HRS c0 c1 c2 c3 c4 c5 cf
    obtain ⟨ao2, co2, at2, ct2, rfl, hf⟩ := hcut
    have HF := Lib.hid hf
    obtain ⟨c0, c1, c2, c3, c4, c5, cf⟩ := blk6' hf.box
    obtain ⟨d0, d1, d2, d3, d4, d5, df⟩ := blk6' hf.res
    clear hf
    go_wp2_with (fail)
    refine bodyPost_ret (v := .agg #[.string p.nm, .int .i64 p.out, .int .i64 p.inn, .slice aw' p.wt.length cw', .slice ao2 p.ours.length co2, .slice at2 p.thr.length ct2]) (by simp [results, Tryz.results57, go_sem, d0, d1, d2, d3, d4, d5]) rfl ⟨_, _, _, rfl, ?_, ?_⟩
    · refine (HF.out.own.on ?_).low (by omega)
      (repeat (first | (with_reducible exact SameOn.refl _ _) | (with_reducible exact SameOn.refl _ _) | ((with_reducible refine SameOn.set ?_ ?_ _); rotate_left; focus (first | (simp; done) | (simp; omega))) | (with_reducible apply SameOn.drewN)))
    · (repeat (first | (with_reducible exact HF.out.bel) | (with_reducible apply bl_drewN) | (with_reducible apply bl_alloc) | ((with_reducible refine bl_set ?_ _ ?_); rotate_left; focus (first | exact Nat.le_refl _ | (simp; done) | (simp; omega)))))
end Go.Proofs.YtmjbbpappigngaaGreat
