/-
  Layer 44 (recon): the walk of deliver.
-/
import Derived.Test.YtmjbbpappigngaaGreatMgH
namespace Go.Proofs.YtmjbbpappigngaaGreat
open Go.RowKit Go.Tw Go.Tw.Exc
/-- deliver's boxes: the partner, the result -/
structure DB (S : Nat → Prop) (w : World) (q : Par) (u1 u2 u3 : Value) (wr : World) : Prop where
  bel : Below w.heap.size w wr
  bx : wr.heap[w.heap.size]? = some (.cells #[.string q.nm, .int .i64 q.out, .int .i64 q.inn, u1, u2, u3] 29 (0, 0))
  rx : wr.heap[w.heap.size + 1]? = some (.cells #[.string ⟨#[]⟩, .int .i64 0, .int .i64 0, .slice none 0 0, .slice none 0 0, .slice none 0 0] 29 (0, 0))
  ok : ParOk (fun k => S k ∨ (w.heap.size + 2 ≤ k ∧ k < wr.heap.size)) wr q u1 u2 u3
theorem DB.step {S : Nat → Prop} {w : World} {q : Par} {u1 u2 u3 : Value} {wr wx : World} (h : DB S w q u1 u2 u3 wr) (hss : ∀ k, S k → k < w.heap.size) (hb : Below wr.heap.size wr wx) : DB S w q u1 u2 u3 wx := by
  have hz := lt_of_heap h.rx
  have hz2 := hb.size
  refine ⟨bl_trans h.bel hb, Go.Tw.Below.at_old hb h.bx, Go.Tw.Below.at_old hb h.rx, h.ok.keep (fun k hk => ?_) (fun k hk => hb.block k ?_)⟩
  · rcases hk with hk | hk
    · exact .inl hk
    · exact .inr ⟨hk.1, by omega⟩
  · rcases hk with hk | hk
    · have := hss k hk; omega
    · exact hk.2
theorem DB.lt {S : Nat → Prop} {w : World} {q : Par} {u1 u2 u3 : Value} {wr : World} (h : DB S w q u1 u2 u3 wr) (hss : ∀ k, S k → k < w.heap.size) : ∀ k, (S k ∨ (w.heap.size + 2 ≤ k ∧ k < wr.heap.size)) → k < wr.heap.size := fun k hk => by
  have hz := lt_of_heap h.rx
  rcases hk with hk | hk
  · have := hss k hk; omega
  · exact hk.2
/-- the partner's box is written -/
theorem DB.put {S : Nat → Prop} {w : World} {q q' : Par} {u1 u2 u3 v1 v2 v3 : Value} {wr wx : World} (h : DB S w q u1 u2 u3 wr) (hss : ∀ k, S k → k < w.heap.size) (hb : Below wr.heap.size wr wx) (hq : ParOk (fun k => S k ∨ (w.heap.size + 2 ≤ k ∧ k < wx.heap.size)) wx q' v1 v2 v3) :
    DB S w q' v1 v2 v3 ((((((wx.setCell ⟨w.heap.size, 0, none⟩ (.string q'.nm)).setCell ⟨w.heap.size, 1, none⟩ (.int .i64 q'.out)).setCell ⟨w.heap.size, 2, none⟩ (.int .i64 q'.inn)).setCell ⟨w.heap.size, 3, none⟩ v1).setCell ⟨w.heap.size, 4, none⟩ v2).setCell ⟨w.heap.size, 5, none⟩ v3) := by
  have h' := h.step hss hb
  have hl := Nat.le_refl w.heap.size
  refine ⟨bl_set (bl_set (bl_set (bl_set (bl_set (bl_set h'.bel _ hl) _ hl) _ hl) _ hl) _ hl) _ hl, set6_same h'.bx, (set6_ne (by omega)).trans h'.rx, hq.keep (fun k hk => ?_) (fun k hk => set6_ne ?_)⟩
  · rcases hk with hk | hk
    · exact .inl hk
    · exact .inr ⟨hk.1, by simpa using hk.2⟩
  · rcases hk with hk | hk
    · have := hss k hk; omega
    · omega
/-- what a call has handed back is in the memory of the box -/
theorem DB.res {S : Nat → Prop} {w : World} {q q' : Par} {u1 u2 u3 v1 v2 v3 : Value} {wr wc w' : World} (h : DB S w q u1 u2 u3 wr) (hb : Below wr.heap.size wr wc)
    (hq : ParOk (fun k => (S k ∨ (w.heap.size + 2 ≤ k ∧ k < wr.heap.size)) ∨ (wc.heap.size ≤ k ∧ k < w'.heap.size)) w' q' v1 v2 v3) (hb2 : Below wc.heap.size wc w') : ParOk (fun k => S k ∨ (w.heap.size + 2 ≤ k ∧ k < w'.heap.size)) w' q' v1 v2 v3 := by
  have hz := lt_of_heap h.rx
  have h1 := hb.size
  have h2 := hb2.size
  refine hq.keep (fun k hk => ?_) (SameOn.refl _ _)
  rcases hk with (hk | hk) | hk
  · exact .inl hk
  · exact .inr ⟨hk.1, by omega⟩
  · exact .inr ⟨by omega, hk.2⟩
theorem bools_open {S : Nat → Prop} {w : World} {v : Value} {l : List Bool} (h : SlIs tBool S w v l) :
    ∃ ao cap b off, v = .slice ao l.length cap ∧ l.length ≤ cap ∧ cap ≤ maxLen ∧ ∀ w', SameOn S w w' → ∀ k (_ : k < l.length), ao = some ⟨b, off, none⟩ ∧ b < w.heap.size ∧ w'.cell? ⟨b, off + k, none⟩ = some (.bool l[k]) := by
  obtain ⟨ao, cap, b, off, hv, h1, h2, h3⟩ := h.openS
  refine ⟨ao, cap, b, off, hv, h1, h2, fun w' hw k hk => ?_⟩
  obtain ⟨g1, -, g2', cs, g3, g4⟩ := h3 w' hw k hk
  have g4' : cs = [.bool l[k]] := g4
  subst g4'
  have := g3 0 (by show 0 < 1; decide)
  have e1 : off + k * tBool.sz + 0 = off + k := by show off + k * 1 + 0 = off + k; omega
  rw [e1] at this
  exact ⟨g1, g2', this⟩
set_option maxRecDepth 100000 in
set_option maxHeartbeats 8000000 in
theorem deliver_gen (S : Nat → Prop) (p : Par) (fs : List Fil) (bs : List Bool) (vw vo vt vf vl : Value) (w : World) (hsp : ParOk S w p vw vo vt) (hss : ∀ k, S k → k < w.heap.size) (hs : SmallP p) (hf : SlIs tFil (· < w.heap.size) w vf fs) (hl : SlIs tBool (· < w.heap.size) w vl bs) :
    Calls Tryz.prog 27 #[.agg #[.string p.nm, .int .i64 p.out, .int .i64 p.inn, vw, vo, vt], vf, vl] w fun e w' => PEs S w w' e (delivC p fs bs) ∧ Below w.heap.size w w' := by
  have HSS := Lib.hid hss
  obtain ⟨e1, n1, _, _, rfl, -⟩ := id hsp.wt
  obtain ⟨e2, n2, _, _, rfl, -⟩ := id hsp.ours
  obtain ⟨e3, n3, _, _, rfl, -⟩ := id hsp.thr
  obtain ⟨af, cf, bf, of, rfl, hf1, hf2, hfo⟩ := fil_open hf
  obtain ⟨al, cl, bl, ol, rfl, hl1, hl2, hlo⟩ := bools_open hl
  have HFO := Lib.hid hfo
  have HLO := Lib.hid hlo
  unfold maxLen at hf2 hl2
  have HSP := Lib.hid hsp
  have HS0 := Lib.hid hs
  clear hf hl hfo hlo hsp hss hs
  go_enter Tryz.func27, Tryz.ntmps27
  go_wp2_with (fail)
  have HX0 := Lib.hid (show DB S w p (.slice e1 p.wt.length n1) (.slice e2 p.ours.length n2) (.slice e3 p.thr.length n3) _ from
    ⟨bl_alloc (bl_alloc (Below.refl _ _) _) _, alloc2_0 w (.cells #[.string p.nm, .int .i64 p.out, .int .i64 p.inn, .slice e1 p.wt.length n1, .slice e2 p.ours.length n2, .slice e3 p.thr.length n3] 29) (.cells #[.string ⟨#[]⟩, .int .i64 0, .int .i64 0, .slice none 0 0, .slice none 0 0, .slice none 0 0] 29), alloc2_1 w _ _,
      HSP.out.keep (fun k hk => .inl hk) (fun k hk => (bl_alloc (bl_alloc (Below.refl w.heap.size w) _) _).block k (HSS.out k hk))⟩)
  obtain ⟨W1, hW1⟩ : ∃ W1, (w.alloc (.cells #[.string p.nm, .int .i64 p.out, .int .i64 p.inn, .slice e1 p.wt.length n1, .slice e2 p.ours.length n2, .slice e3 p.thr.length n3] 29)).alloc (.cells #[.string ⟨#[]⟩, .int .i64 0, .int .i64 0, .slice none 0 0, .slice none 0 0, .slice none 0 0] 29) = W1 := ⟨_, rfl⟩
  rw [hW1] at HX0 ⊢
  clear hW1
  go_wp2_with (fail)
  go_step3
  go_wp2_with (fail)
  go_step3
  go_wp2_with (fail)
  go_loopg [14] fs.length (fun g i wr => ∃ (k : Nat) (q : Par) (u1 u2 u3 : Value), k + g = fs.length ∧ i = .int .i64 k ∧ DB S w q u1 u2 u3 wr ∧ SmallP q ∧ Hid (delivC p fs bs = delivC q (fs.drop k) (bs.drop k)))
  case atStart => exact ⟨0, p, _, _, _, by omega, rfl, HX0.out, HS0.out, Lib.hid rfl⟩
  case round =>
    clear HX0 HSP HS0
    obtain ⟨k, q, u1, u2, u3, hk, rfl, hX, hsq, HE⟩ := hrel
    obtain ⟨x1, y1, _, _, rfl, -⟩ := id hX.ok.wt
    obtain ⟨x2, y2, _, _, rfl, -⟩ := id hX.ok.ours
    obtain ⟨x3, y3, _, _, rfl, -⟩ := id hX.ok.thr
    have HX := Lib.hid hX
    have HSQ := Lib.hid hsq
    clear hX hsq
    obtain ⟨c0, c1, c2, c3, c4, c5, cf'⟩ := blk6' HX.out.bx
    obtain ⟨r0, r1, r2, r3, r4, r5, rf⟩ := blk6' HX.out.rx
    by_cases hlt : k < fs.length
    · obtain ⟨rfl, -, hbw, hv, hok, d0, d1, d2, d3⟩ := HFO.out wr (.of_below HX.out.bel) k hlt
      have k0 : (0 : Int) ≤ (k : Int) := by omega
      have k1 : (k : Int) < (fs.length : Int) := by omega
      obtain ⟨f, hfk⟩ : ∃ f, fs[k] = f := ⟨_, rfl⟩
      have HFK := Lib.hid hfk
      rw [hfk] at hok d0 d1 d2
      obtain ⟨ah, ch, _, _, rfl, -⟩ := id hok.rs
      have HOK := Lib.hid hok
      clear hok hfk
      go_upto_region 4 with (fail)
      obtain ⟨wx, hwx⟩ : ∃ wx, wr.alloc (.cells #[.string f.fr, .string f.to, .int .i64 f.sq, .slice ah f.rs.length ch] 45) = wx := ⟨_, rfl⟩
      have hbx : Below wr.heap.size wr wx := by rw [← hwx]; exact bl_alloc (Below.refl _ _) _
      have HXX := Lib.hid (HX.out.step HSS.out hbx)
      have h9 := alloc1_0 wr (.cells #[.string f.fr, .string f.to, .int .i64 f.sq, .slice ah f.rs.length ch] 45)
      rw [hwx] at h9 ⊢
      have HOKX := Lib.hid (HOK.out.keep (S' := fun k => k < wx.heap.size) (w' := wx) (fun k hk => by have := HXX.out.bel.size; omega) (fun k hk => hbx.block k (by have := HX.out.bel.size; omega)))
      clear d0 d1 d2 d3 c0 c1 c2 c3 c4 c5 cf' r0 r1 r2 r3 r4 r5 rf hbx HOK HX hwx
      obtain ⟨b9, hb9⟩ : ∃ b, wr.heap.size = b := ⟨_, rfl⟩
      rw [hb9] at h9 ⊢
      clear hb9
      obtain ⟨c0, c1, c2, c3, c4, c5, cf'⟩ := blk6' HXX.out.bx
      obtain ⟨d0, d1, d2, d3, df⟩ := blk4 h9
      clear h9
      by_cases hkb : k < bs.length
      · obtain ⟨rfl, -, hcell⟩ := HLO.out wx (.of_below HXX.out.bel) k hkb
        have l1 : (k : Int) < (bs.length : Int) := by omega
        obtain ⟨b, hbk⟩ : ∃ b, bs[k] = b := ⟨_, rfl⟩
        rw [hbk] at hcell
        have HBK := Lib.hid hbk
        clear hbk
        cases b
        · have HNL := Lib.hid (show ∀ h : k < bs.length, bs[k] = false from fun h => HBK.out)
          go_wp2_with (fail)
          refine (recv_gen _ q f _ _ _ _ wx HXX.out.ok (HXX.out.lt HSS.out) HSQ.out HOKX.out).mono ?_
          rintro e w2 ⟨he, hb2⟩
          obtain ⟨q', er, hqe⟩ : ∃ q' er, recvC q f = (q', er) := ⟨_, _, rfl⟩
          have HQE := Lib.hid hqe
          rw [hqe] at he
          obtain ⟨v1, v2, v3, rfl, hq'⟩ := he
          dsimp only at hq' ⊢
          obtain ⟨x1', y1', _, _, rfl, -⟩ := id hq'.wt
          obtain ⟨x2', y2', _, _, rfl, -⟩ := id hq'.ours
          obtain ⟨x3', y3', _, _, rfl, -⟩ := id hq'.thr
          have HQ2 := Lib.hid (HXX.out.res (Below.refl _ _) hq' hb2)
          have HX2 := Lib.hid (HXX.out.step HSS.out hb2)
          clear hqe hq' hb2 c0 c1 c2 c3 c4 c5 cf' d0 d1 d2 d3 df
          obtain ⟨c0, c1, c2, c3, c4, c5, cf'⟩ := blk6' HX2.out.bx
          obtain ⟨r0, r1, r2, r3, r4, r5, rf⟩ := blk6' HX2.out.rx
          have HCO := Lib.hid (HE.out.trans ((deliv_come hlt HNL.out).trans (by rw [HFK.out, HQE.out])))
          go_upto_region 6 with (fail)
          clear c0 c1 c2 c3 c4 c5 cf' r0 r1 r2 r3 r4 r5 rf
          obtain ⟨wy, hwy⟩ : ∃ wy, w2.alloc (.cells #[.string q'.nm, .int .i64 q'.out, .int .i64 q'.inn, .slice x1' q'.wt.length y1', .slice x2' q'.ours.length y2', .slice x3' q'.thr.length y3'] 29) = wy := ⟨_, rfl⟩
          have hby : Below w2.heap.size w2 wy := by rw [← hwy]; exact bl_alloc (Below.refl _ _) _
          have h10 := alloc1_0 w2 (.cells #[.string q'.nm, .int .i64 q'.out, .int .i64 q'.inn, .slice x1' q'.wt.length y1', .slice x2' q'.ours.length y2', .slice x3' q'.thr.length y3'] 29)
          rw [hwy] at h10 ⊢
          have HXA := Lib.hid (HX2.out.step HSS.out hby)
          have HQA := Lib.hid (HQ2.out.keep (S' := fun k => S k ∨ (w.heap.size + 2 ≤ k ∧ k < wy.heap.size)) (w' := wy) (fun k hk => by
              rcases hk with hk | hk
              · exact .inl hk
              · exact .inr ⟨hk.1, by have := hk.2; have := hby.size; omega⟩) (fun k hk => hby.block k (HX2.out.lt HSS.out k hk)))
          obtain ⟨b10, hb10⟩ : ∃ b, w2.heap.size = b := ⟨_, rfl⟩
          rw [hb10] at h10 ⊢
          clear hwy hby hb10 HX2 HQ2
          obtain ⟨c0, c1, c2, c3, c4, c5, cf'⟩ := blk6' HXA.out.bx
          obtain ⟨r0, r1, r2, r3, r4, r5, rf⟩ := blk6' HXA.out.rx
          obtain ⟨g0, g1, g2, g3, g4, g5, gf⟩ := blk6' h10
          clear h10
          by_cases z0 : er = 0
          · have z0' : (er == 0) = true := by simpa using z0
            have HC2 := Lib.hid (HCO.out.trans (if_pos z0))
            have HPU := Lib.hid (HXA.out.put HSS.out (Below.refl _ _) HQA.out)
            have HSQ' := Lib.hid (show SmallP q' by have := HSQ.out.recv f; rw [HQE.out] at this; exact this)
            clear z0
            go_wp2_with (fail)
            go_roundg (fs.length - (k + 1))
            case measure => omega
            case rel => exact ⟨k + 1, q', _, _, _, by omega, by go_num, HPU.out, HSQ'.out, HC2⟩
          · have z0' : (er == 0) = false := by simpa using z0
            have HC2 := Lib.hid (HCO.out.trans (if_neg z0))
            by_cases z1 : er = 31
            · have z1' : (er == 31) = true := by simpa using z1
              have HC3 := Lib.hid (HC2.out.trans (if_pos z1))
              clear z0 z1
              go_wp2_with (fail)
              go_roundg (fs.length - (k + 1))
              case measure => omega
              case rel => exact ⟨k + 1, q, _, _, _, by omega, by go_num, HXA.out, HSQ.out, HC3⟩
            · have z1' : (er == 31) = false := by simpa using z1
              have HC3 := Lib.hid (HC2.out.trans (if_neg z1))
              clear z0 z1
              go_wp2_with (fail)
              (try unfold Exit.noGoto)
              refine bodyPost_ret (v := .tuple #[.agg #[.string q.nm, .int .i64 q.out, .int .i64 q.inn, .slice x1 q.wt.length y1, .slice x2 q.ours.length y2, .slice x3 q.thr.length y3], .int .i64 er]) (by simp [results, Tryz.results27, go_sem, r0, r1, r2, r3, r4, r5]) rfl ⟨pes_mk HC3.out (HXA.out.ok.keep (fun k hk => ?_) (fun k hk => set6_ne ?_)), ?_⟩
              · rcases hk with hk | hk
                · exact .inl hk
                · exact .inr ⟨by omega, by have := hk.2; simpa using this⟩
              · rcases hk with hk | hk
                · have := HSS.out k hk; omega
                · omega
              · (repeat (first | (with_reducible exact HXA.out.bel) | (with_reducible apply bl_drewN) | (with_reducible apply bl_alloc) | ((with_reducible refine bl_set ?_ _ ?_); rotate_left; focus (first | exact Nat.le_refl _ | (simp; done) | (simp; omega)))))
        · go_wp2_with (fail)
          go_roundg (fs.length - (k + 1))
          case measure => omega
          case rel => exact ⟨k + 1, q, _, _, _, by omega, by go_num, HXX.out, HSQ.out, Lib.hid (HE.out.trans (deliv_lost hlt hkb HBK.out))⟩
      · have HNL := Lib.hid (show ∀ h : k < bs.length, bs[k] = false from fun h => absurd h hkb)
        have l1 : (bs.length : Int) ≤ (k : Int) := by omega
        go_wp2_with (fail)
        refine (recv_gen _ q f _ _ _ _ wx HXX.out.ok (HXX.out.lt HSS.out) HSQ.out HOKX.out).mono ?_
        rintro e w2 ⟨he, hb2⟩
        obtain ⟨q', er, hqe⟩ : ∃ q' er, recvC q f = (q', er) := ⟨_, _, rfl⟩
        have HQE := Lib.hid hqe
        rw [hqe] at he
        obtain ⟨v1, v2, v3, rfl, hq'⟩ := he
        dsimp only at hq' ⊢
        obtain ⟨x1', y1', _, _, rfl, -⟩ := id hq'.wt
        obtain ⟨x2', y2', _, _, rfl, -⟩ := id hq'.ours
        obtain ⟨x3', y3', _, _, rfl, -⟩ := id hq'.thr
        have HQ2 := Lib.hid (HXX.out.res (Below.refl _ _) hq' hb2)
        have HX2 := Lib.hid (HXX.out.step HSS.out hb2)
        clear hqe hq' hb2 c0 c1 c2 c3 c4 c5 cf' d0 d1 d2 d3 df
        obtain ⟨c0, c1, c2, c3, c4, c5, cf'⟩ := blk6' HX2.out.bx
        obtain ⟨r0, r1, r2, r3, r4, r5, rf⟩ := blk6' HX2.out.rx
        have HCO := Lib.hid (HE.out.trans ((deliv_come hlt HNL.out).trans (by rw [HFK.out, HQE.out])))
        go_upto_region 6 with (fail)
        clear c0 c1 c2 c3 c4 c5 cf' r0 r1 r2 r3 r4 r5 rf
        obtain ⟨wy, hwy⟩ : ∃ wy, w2.alloc (.cells #[.string q'.nm, .int .i64 q'.out, .int .i64 q'.inn, .slice x1' q'.wt.length y1', .slice x2' q'.ours.length y2', .slice x3' q'.thr.length y3'] 29) = wy := ⟨_, rfl⟩
        have hby : Below w2.heap.size w2 wy := by rw [← hwy]; exact bl_alloc (Below.refl _ _) _
        have h10 := alloc1_0 w2 (.cells #[.string q'.nm, .int .i64 q'.out, .int .i64 q'.inn, .slice x1' q'.wt.length y1', .slice x2' q'.ours.length y2', .slice x3' q'.thr.length y3'] 29)
        rw [hwy] at h10 ⊢
        have HXA := Lib.hid (HX2.out.step HSS.out hby)
        have HQA := Lib.hid (HQ2.out.keep (S' := fun k => S k ∨ (w.heap.size + 2 ≤ k ∧ k < wy.heap.size)) (w' := wy) (fun k hk => by
            rcases hk with hk | hk
            · exact .inl hk
            · exact .inr ⟨hk.1, by have := hk.2; have := hby.size; omega⟩) (fun k hk => hby.block k (HX2.out.lt HSS.out k hk)))
        obtain ⟨b10, hb10⟩ : ∃ b, w2.heap.size = b := ⟨_, rfl⟩
        rw [hb10] at h10 ⊢
        clear hwy hby hb10 HX2 HQ2
        obtain ⟨c0, c1, c2, c3, c4, c5, cf'⟩ := blk6' HXA.out.bx
        obtain ⟨r0, r1, r2, r3, r4, r5, rf⟩ := blk6' HXA.out.rx
        obtain ⟨g0, g1, g2, g3, g4, g5, gf⟩ := blk6' h10
        clear h10
        by_cases z0 : er = 0
        · have z0' : (er == 0) = true := by simpa using z0
          have HC2 := Lib.hid (HCO.out.trans (if_pos z0))
          have HPU := Lib.hid (HXA.out.put HSS.out (Below.refl _ _) HQA.out)
          have HSQ' := Lib.hid (show SmallP q' by have := HSQ.out.recv f; rw [HQE.out] at this; exact this)
          clear z0
          go_wp2_with (fail)
          go_roundg (fs.length - (k + 1))
          case measure => omega
          case rel => exact ⟨k + 1, q', _, _, _, by omega, by go_num, HPU.out, HSQ'.out, HC2⟩
        · have z0' : (er == 0) = false := by simpa using z0
          have HC2 := Lib.hid (HCO.out.trans (if_neg z0))
          by_cases z1 : er = 31
          · have z1' : (er == 31) = true := by simpa using z1
            have HC3 := Lib.hid (HC2.out.trans (if_pos z1))
            clear z0 z1
            go_wp2_with (fail)
            go_roundg (fs.length - (k + 1))
            case measure => omega
            case rel => exact ⟨k + 1, q, _, _, _, by omega, by go_num, HXA.out, HSQ.out, HC3⟩
          · have z1' : (er == 31) = false := by simpa using z1
            have HC3 := Lib.hid (HC2.out.trans (if_neg z1))
            clear z0 z1
            go_wp2_with (fail)
            (try unfold Exit.noGoto)
            refine bodyPost_ret (v := .tuple #[.agg #[.string q.nm, .int .i64 q.out, .int .i64 q.inn, .slice x1 q.wt.length y1, .slice x2 q.ours.length y2, .slice x3 q.thr.length y3], .int .i64 er]) (by simp [results, Tryz.results27, go_sem, r0, r1, r2, r3, r4, r5]) rfl ⟨pes_mk HC3.out (HXA.out.ok.keep (fun k hk => ?_) (fun k hk => set6_ne ?_)), ?_⟩
            · rcases hk with hk | hk
              · exact .inl hk
              · exact .inr ⟨by omega, by have := hk.2; simpa using this⟩
            · rcases hk with hk | hk
              · have := HSS.out k hk; omega
              · omega
            · (repeat (first | (with_reducible exact HXA.out.bel) | (with_reducible apply bl_drewN) | (with_reducible apply bl_alloc) | ((with_reducible refine bl_set ?_ _ ?_); rotate_left; focus (first | exact Nat.le_refl _ | (simp; done) | (simp; omega)))))
    · have hkd : decide ((fs.length : Int) < (fs.length : Int)) = false := by simp
      obtain rfl : k = fs.length := by omega
      have HE2 := Lib.hid (HE.out.trans (deliv_end (Nat.le_refl _)))
      clear hlt hk
      go_wp2_with (fail)
      unfold Exit.noGoto
      refine bodyPost_ret (v := .tuple #[.agg #[.string q.nm, .int .i64 q.out, .int .i64 q.inn, .slice x1 q.wt.length y1, .slice x2 q.ours.length y2, .slice x3 q.thr.length y3], .int .i64 0]) (by simp [results, Tryz.results27, go_sem, r0, r1, r2, r3, r4, r5]) rfl ⟨pes_mk HE2.out (HX.out.ok.keep (fun k hk => ?_) (fun k hk => set6_ne ?_)), ?_⟩
      · rcases hk with hk | hk
        · exact .inl hk
        · exact .inr ⟨by omega, by have := hk.2; simpa using this⟩
      · rcases hk with hk | hk
        · have := HSS.out k hk; omega
        · omega
      · (repeat (first | (with_reducible exact HX.out.bel) | (with_reducible apply bl_drewN) | (with_reducible apply bl_alloc) | ((with_reducible refine bl_set ?_ _ ?_); rotate_left; focus (first | exact Nat.le_refl _ | (simp; done) | (simp; omega)))))
end Go.Proofs.YtmjbbpappigngaaGreat
/-
  Layer 44 (recon): the walk of the reference's deliver.
-/
namespace Go.Proofs.YtmjbbpappigngaaGreat
open Go.RowKit Go.Tw Go.Tw.Exc
set_option maxRecDepth 100000 in
set_option maxHeartbeats 8000000 in
theorem deliverR_gen (S : Nat → Prop) (p : Par) (fs : List Fil) (bs : List Bool) (n0 : Nat) (vw vo vt vf vl : Value) (w : World) (hsp : ParOk S w p vw vo vt) (hss : ∀ k, S k → k < w.heap.size) (hs : SmallP p) (hf : SlIs tFil (· < w.heap.size) w vf fs) (hl : SlIs tBool (· < w.heap.size) w vl bs) (hn0 : n0 ≤ 1000000) (hfn : fs.length ≤ 1000000) :
    Calls Tryz.prog 30 #[.agg #[.string p.nm, .int .i64 p.out, .int .i64 p.inn, vw, vo, vt], vf, vl, .int .i64 n0] w fun e w' => PEs S w w' e (delivC p fs (bs.drop n0)) ∧ Below w.heap.size w w' := by
  have HSS := Lib.hid hss
  obtain ⟨e1, n1, _, _, rfl, -⟩ := id hsp.wt
  obtain ⟨e2, n2, _, _, rfl, -⟩ := id hsp.ours
  obtain ⟨e3, n3, _, _, rfl, -⟩ := id hsp.thr
  obtain ⟨af, cf, bf, of, rfl, hf1, hf2, hfo⟩ := fil_open hf
  obtain ⟨al, cl, bl, ol, rfl, hl1, hl2, hlo⟩ := bools_open hl
  have HFO := Lib.hid hfo
  have HLO := Lib.hid hlo
  unfold maxLen at hf2 hl2
  have HSP := Lib.hid hsp
  have HS0 := Lib.hid hs
  clear hf hl hfo hlo hsp hss hs
  go_enter Tryz.func30, Tryz.ntmps30
  go_wp2_with (fail)
  have HX0 := Lib.hid (show DB S w p (.slice e1 p.wt.length n1) (.slice e2 p.ours.length n2) (.slice e3 p.thr.length n3) _ from
    ⟨bl_alloc (bl_alloc (Below.refl _ _) _) _, alloc2_0 w (.cells #[.string p.nm, .int .i64 p.out, .int .i64 p.inn, .slice e1 p.wt.length n1, .slice e2 p.ours.length n2, .slice e3 p.thr.length n3] 29) (.cells #[.string ⟨#[]⟩, .int .i64 0, .int .i64 0, .slice none 0 0, .slice none 0 0, .slice none 0 0] 29), alloc2_1 w _ _,
      HSP.out.keep (fun k hk => .inl hk) (fun k hk => (bl_alloc (bl_alloc (Below.refl w.heap.size w) _) _).block k (HSS.out k hk))⟩)
  obtain ⟨W1, hW1⟩ : ∃ W1, (w.alloc (.cells #[.string p.nm, .int .i64 p.out, .int .i64 p.inn, .slice e1 p.wt.length n1, .slice e2 p.ours.length n2, .slice e3 p.thr.length n3] 29)).alloc (.cells #[.string ⟨#[]⟩, .int .i64 0, .int .i64 0, .slice none 0 0, .slice none 0 0, .slice none 0 0] 29) = W1 := ⟨_, rfl⟩
  rw [hW1] at HX0 ⊢
  clear hW1
  go_wp2_with (fail)
  go_loopg [10] fs.length (fun g i wr => ∃ (k : Nat) (q : Par) (u1 u2 u3 : Value), k + g = fs.length ∧ i = .int .i64 k ∧ DB S w q u1 u2 u3 wr ∧ SmallP q ∧ Hid (delivC p fs (bs.drop n0) = delivC q (fs.drop k) ((bs.drop n0).drop k)))
  case atStart => exact ⟨0, p, _, _, _, by omega, rfl, HX0.out, HS0.out, Lib.hid rfl⟩
  case round =>
    clear HX0 HSP HS0
    obtain ⟨k, q, u1, u2, u3, hk, rfl, hX, hsq, HE⟩ := hrel
    obtain ⟨x1, y1, _, _, rfl, -⟩ := id hX.ok.wt
    obtain ⟨x2, y2, _, _, rfl, -⟩ := id hX.ok.ours
    obtain ⟨x3, y3, _, _, rfl, -⟩ := id hX.ok.thr
    have HX := Lib.hid hX
    have HSQ := Lib.hid hsq
    clear hX hsq
    by_cases hlt : k < fs.length
    · obtain ⟨rfl, -, hbw, hv, hok, d0, d1, d2, d3⟩ := HFO.out wr (.of_below HX.out.bel) k hlt
      have k0 : (0 : Int) ≤ (k : Int) := by omega
      have k1 : (k : Int) < (fs.length : Int) := by omega
      have z0 : IntKind.i64.wrap ((n0 : Int) + (k : Int)) = (n0 : Int) + (k : Int) := wrap_in (by omega) (by omega)
      have z1 : (0 : Int) ≤ (n0 : Int) + (k : Int) := by omega
      have z2 : ((n0 : Int) + (k : Int)).toNat = n0 + k := by omega
      obtain ⟨f, hfk⟩ : ∃ f, fs[k] = f := ⟨_, rfl⟩
      have HFK := Lib.hid hfk
      rw [hfk] at hok d0 d1 d2
      obtain ⟨ah, ch, _, _, rfl, -⟩ := id hok.rs
      have HOK := Lib.hid hok
      clear hok hfk
      by_cases hkb : n0 + k < bs.length
      · obtain ⟨rfl, -, hcell⟩ := HLO.out wr (.of_below HX.out.bel) (n0 + k) hkb
        have l1 : (n0 : Int) + (k : Int) < (bs.length : Int) := by omega
        have HBE := Lib.hid (show ∀ h : k < (bs.drop n0).length, (bs.drop n0)[k] = bs[n0 + k] from fun h => List.getElem_drop)
        obtain ⟨b, hbk⟩ : ∃ b, bs[n0 + k] = b := ⟨_, rfl⟩
        rw [hbk] at hcell HBE
        clear hbk
        cases b
        · have HNL := Lib.hid (show ∀ h : k < (bs.drop n0).length, (bs.drop n0)[k] = false from HBE.out)
          have HDC := Lib.hid (HE.out.trans ((deliv_come (bs := bs.drop n0) hlt HNL.out).trans (by rw [HFK.out])))
          obtain ⟨q', er, hqe⟩ : ∃ q' er, recvC q f = (q', er) := ⟨_, _, rfl⟩
          have HQE := Lib.hid hqe
          have HRC := Lib.hid (show ∀ W', Below wr.heap.size wr W' → Calls Tryz.prog 55 #[.agg #[.string q.nm, .int .i64 q.out, .int .i64 q.inn, .slice x1 q.wt.length y1, .slice x2 q.ours.length y2, .slice x3 q.thr.length y3], .agg #[.string f.fr, .string f.to, .int .i64 f.sq, .slice ah f.rs.length ch]] W'
              fun e w' => (∃ u1 c1 u2 c2 u3 c3, e = .returned (.tuple #[.agg #[.string q'.nm, .int .i64 q'.out, .int .i64 q'.inn, .slice u1 q'.wt.length c1, .slice u2 q'.ours.length c2, .slice u3 q'.thr.length c3], .int .i64 er]) ∧ ParOk (fun k => (S k ∨ (w.heap.size + 2 ≤ k ∧ k < wr.heap.size)) ∨ (W'.heap.size ≤ k ∧ k < w'.heap.size)) w' q' (.slice u1 q'.wt.length c1) (.slice u2 q'.ours.length c2) (.slice u3 q'.thr.length c3)) ∧ Below W'.heap.size W' w' from fun W' hW => by
            refine (recvR_gen (fun k => S k ∨ (w.heap.size + 2 ≤ k ∧ k < wr.heap.size)) q f _ _ _ _ W' (HX.out.ok.keep (fun _ h => h) (fun k hk => hW.block k (HX.out.lt HSS.out k hk))) (fun k hk => Nat.lt_of_lt_of_le (HX.out.lt HSS.out k hk) hW.size) HSQ.out (HOK.out.keep (fun k hk => by have := HX.out.bel.size; have := hW.size; omega) (fun k hk => hW.block k (by have := HX.out.bel.size; omega)))).mono ?_
            rintro e w' ⟨he, hb'⟩
            rw [HQE.out] at he
            obtain ⟨v1, v2, v3, rfl, hq'⟩ := he
            dsimp only at hq' ⊢
            obtain ⟨u1, c1, _, _, rfl, -⟩ := id hq'.wt
            obtain ⟨u2, c2, _, _, rfl, -⟩ := id hq'.ours
            obtain ⟨u3, c3, _, _, rfl, -⟩ := id hq'.thr
            exact ⟨⟨u1, c1, u2, c2, u3, c3, rfl, hq'⟩, hb'⟩)
          clear hqe
          go_upto_region 5 with (fail)
          go_cut [11, 12] (fun v11 v12 wy => ∃ b10 u1 c1 u2 c2 u3 c3, v11 = .pointer (some ⟨b10, 0, none⟩) ∧ v12 = .int .i64 er ∧ wy.heap[b10]? = some (.cells #[.string q'.nm, .int .i64 q'.out, .int .i64 q'.inn, .slice u1 q'.wt.length c1, .slice u2 q'.ours.length c2, .slice u3 q'.thr.length c3] 29 (0, 0)) ∧ Below wr.heap.size wr wy ∧ ParOk (fun k => S k ∨ (w.heap.size + 2 ≤ k ∧ k < wy.heap.size)) wy q' (.slice u1 q'.wt.length c1) (.slice u2 q'.ours.length c2) (.slice u3 q'.thr.length c3))
          case first =>
            have HXA := Lib.hid (box6D HX.out.bx)
            have HW := Lib.hid (Below.refl wr.heap.size wr)
            have hnr : w.heap.size + 2 ≤ wr.heap.size := by have := lt_of_heap HX.out.rx; omega
            have hbr : bf < wr.heap.size := by have := HX.out.bel.size; omega
            have HFC := Lib.hid (show ∀ W', Below wr.heap.size wr W' → W'.cell? ⟨bf, of + k * 4, none⟩ = some (.string f.fr) ∧ W'.cell? ⟨bf, of + k * 4 + 1, none⟩ = some (.string f.to) ∧ W'.cell? ⟨bf, of + k * 4 + 2, none⟩ = some (.int .i64 f.sq) ∧ W'.cell? ⟨bf, of + k * 4 + 3, none⟩ = some (.slice ah f.rs.length ch) from fun W' hW =>
              ⟨(hW.cell (p := ⟨bf, of + k * 4, none⟩) hbr).trans d0, (hW.cell (p := ⟨bf, of + k * 4 + 1, none⟩) hbr).trans d1, (hW.cell (p := ⟨bf, of + k * 4 + 2, none⟩) hbr).trans d2, (hW.cell (p := ⟨bf, of + k * 4 + 3, none⟩) hbr).trans d3⟩)
            clear d0 d1 d2 d3
            refine wp_region_E 11 (fun w' => Below wr.heap.size wr w') (by kernel_rfl) ((by (repeat (first | (with_reducible exact Below.refl _ _) | (with_reducible exact HW.out) | (with_reducible apply bl_drewN) | (with_reducible apply bl_alloc) | (with_reducible apply Below.drew))); done)) (fun hHeld => ?_)
            refine wpE_take (i := 0) (v := ?_) rfl (by kernel_rfl) (fun _ _ _ h => h) (Or.inl ⟨by kernel_rfl, ?_⟩) (by assumption) ?_
            rotate_left
            focus (intro w9 hS9; obtain ⟨z0, z1, z2, z3, z4, z5⟩ := HXA.out w9 hS9; clear hS9; go_simp; (try with_reducible rfl))
            (try simp only [Act.put])
            (try simp only [List.setIfInBounds_toArray])
            (repeat (first | simp only [List.set_cons_succ] | simp only [List.set_cons_zero]))
            refine wpE_take (i := 1) (v := ?_) rfl (by kernel_rfl) (fun _ _ _ h => h) (Or.inl ⟨by kernel_rfl, ?_⟩) (by assumption) ?_
            rotate_left
            focus (intro w9 hS9; (try dsimp only at hS9); go_simp; (try with_reducible rfl))
            (try simp only [Act.put])
            (try simp only [List.setIfInBounds_toArray])
            (repeat (first | simp only [List.set_cons_succ] | simp only [List.set_cons_zero]))
            refine wpE_take (i := 2) (v := ?_) rfl (by kernel_rfl) (fun _ _ _ h => h) (Or.inl ⟨by kernel_rfl, ?_⟩) (by assumption) ?_
            rotate_left
            focus (intro w9 hS9; (try dsimp only at hS9); go_simp; (try with_reducible rfl))
            (try simp only [Act.put])
            (try simp only [List.setIfInBounds_toArray])
            (repeat (first | simp only [List.set_cons_succ] | simp only [List.set_cons_zero]))
            refine wpE_take (i := 3) (v := ?_) rfl (by kernel_rfl) (fun _ _ _ h => h) (Or.inl ⟨by kernel_rfl, ?_⟩) (by assumption) ?_
            rotate_left
            focus (intro w9 hS9; (try dsimp only at hS9); go_simp; (try with_reducible rfl))
            (try simp only [Act.put])
            (try simp only [List.setIfInBounds_toArray])
            (repeat (first | simp only [List.set_cons_succ] | simp only [List.set_cons_zero]))
            refine wpE_take (i := 4) (v := ?_) rfl (by kernel_rfl) (fun _ _ _ h => h) (Or.inl ⟨by kernel_rfl, ?_⟩) (by assumption) ?_
            rotate_left
            focus (intro w9 hS9; obtain ⟨z0, z1, z2, z3⟩ := HFC.out w9 hS9; clear hS9; go_simp; (try with_reducible rfl))
            (try simp only [Act.put])
            (try simp only [List.setIfInBounds_toArray])
            (repeat (first | simp only [List.set_cons_succ] | simp only [List.set_cons_zero]))
            refine wpE_ready (rs := [5, 9]) (by kernel_rfl) (by kernel_rfl) ?_
            refine AllReadyE.cons rfl (fun K hK => ?_) (AllReadyE.cons rfl (fun K hK => ?_) AllReadyE.nil)
            · rw [if_pos (show _ = true by kernel_rfl)]
              go_simp
              go_wp2_with (
                go_at_call 55
                refine (HRC.out _ (by (repeat (first | (with_reducible exact Below.refl _ _) | (with_reducible exact HW.out) | (with_reducible apply bl_drewN) | (with_reducible apply bl_alloc) | (with_reducible apply Below.drew))); done)).mono ?_
                rintro e w9 ⟨⟨x1', y1', x2', y2', x3', y3', rfl, hq9⟩, hb9⟩
                have HQ9 := Lib.hid hq9
                have HP1 := Lib.hid (show Below wr.heap.size wr w9 from by (refine bl_trans ?_ hb9; exact (by (repeat (first | (with_reducible exact Below.refl _ _) | (with_reducible exact HW.out) | (with_reducible apply bl_drewN) | (with_reducible apply bl_alloc) | (with_reducible apply Below.drew))); done)))
                have HS9 := Lib.hid hb9.size
                skip
                clear HW hb9 hq9
                have HW := HP1
                clear HP1)
              clear hHeld
              refine hK.out _ _ (HW.out) (fun hHeld => ?_)
              clear hK K
              refine wpE_take (i := 6) (v := ?_) rfl (by kernel_rfl) (fun _ _ _ h => h) (Or.inl ⟨by kernel_rfl, ?_⟩) (by assumption) ?_
              rotate_left
              focus (intro w9 hS9; (try dsimp only at hS9); go_simp; (try with_reducible rfl))
              (try simp only [Act.put])
              (try simp only [List.setIfInBounds_toArray])
              (repeat (first | simp only [List.set_cons_succ] | simp only [List.set_cons_zero]))
              refine wpE_take (i := 7) (v := ?_) rfl (by kernel_rfl) (fun _ _ _ h => h) (Or.inl ⟨by kernel_rfl, ?_⟩) (by assumption) ?_
              rotate_left
              focus (intro w9 hS9; (try dsimp only at hS9); go_simp; (try with_reducible rfl))
              (try simp only [Act.put])
              (try simp only [List.setIfInBounds_toArray])
              (repeat (first | simp only [List.set_cons_succ] | simp only [List.set_cons_zero]))
              refine wpE_take (i := 8) (v := ?_) rfl (by kernel_rfl) (fun _ _ _ h => h) (Or.inl ⟨by kernel_rfl, ?_⟩) (by assumption) ?_
              rotate_left
              focus (intro w9 hS9; (try dsimp only at hS9); go_simp; (try with_reducible rfl))
              (try simp only [Act.put])
              (try simp only [List.setIfInBounds_toArray])
              (repeat (first | simp only [List.set_cons_succ] | simp only [List.set_cons_zero]))
              refine wpE_ready (rs := [9]) (by kernel_rfl) (by kernel_rfl) ?_
              refine AllReadyE.cons rfl (fun K hK => ?_) AllReadyE.nil
              rw [if_pos (show _ = true by kernel_rfl)]
              go_simp
              clear hHeld
              refine hK.out _ _ ((by (repeat (first | (with_reducible exact Below.refl _ _) | (with_reducible exact HW.out) | (with_reducible apply bl_drewN) | (with_reducible apply bl_alloc) | (with_reducible apply Below.drew))); done)) (fun hHeld => ?_)
              clear hK K
              refine wpE_ready (rs := [10]) (by kernel_rfl) (by kernel_rfl) ?_
              refine AllReadyE.cons rfl (fun K hK => ?_) AllReadyE.nil
              rw [if_pos (show _ = true by kernel_rfl)]
              go_simp
              clear hHeld
              refine hK.out _ _ ((by (repeat (first | (with_reducible exact Below.refl _ _) | (with_reducible exact HW.out) | (with_reducible apply bl_drewN) | (with_reducible apply bl_alloc) | (with_reducible apply Below.drew))); done)) (fun hHeld => ?_)
              clear hK K
              clear hHeld
              refine wpE_out (by kernel_rfl) ?_
              refine wpAny_ready (rs := [11]) (by kernel_rfl) (by simp) ?_
              refine AllReady.cons rfl (fun K hK => ?_) AllReady.nil
              rw [if_pos (show _ = true by kernel_rfl)]
              go_simp
              refine hK _ _ ?_
              clear hK K
              refine wpAny_done (by kernel_rfl) ?_ _
              go_wp2_with (fail)
              go_meet
              refine ⟨_, _, _, _, _, _, _, rfl, rfl, alloc1_0 _ _, bl_alloc HW.out _, HQ9.out.keep (fun j hj => ?_) (fun j hj => Below.heap_alloc _ _ _ ?_)⟩
              · have h9 := HS9.out
                have h9' : wr.heap.size ≤ w9.heap.size := h9
                rcases hj with (hj | hj) | hj
                · exact .inl hj
                · exact .inr ⟨hj.1, by have := hj.2; simp; omega⟩
                · have h1 : wr.heap.size ≤ j := hj.1
                  exact .inr ⟨by omega, by have := hj.2; simp; omega⟩
              · have h9' : wr.heap.size ≤ w9.heap.size := HS9.out
                rcases hj with (hj | hj) | hj
                · have := HX.out.lt HSS.out j (.inl hj); omega
                · have := hj.2; omega
                · exact hj.2
            · rw [if_pos (show _ = true by kernel_rfl)]
              go_simp
              clear hHeld
              refine hK.out _ _ ((by (repeat (first | (with_reducible exact Below.refl _ _) | (with_reducible exact HW.out) | (with_reducible apply bl_drewN) | (with_reducible apply bl_alloc) | (with_reducible apply Below.drew))); done)) (fun hHeld => ?_)
              clear hK K
              refine wpE_ready (rs := [5]) (by kernel_rfl) (by kernel_rfl) ?_
              refine AllReadyE.cons rfl (fun K hK => ?_) AllReadyE.nil
              rw [if_pos (show _ = true by kernel_rfl)]
              go_simp
              go_wp2_with (
                go_at_call 55
                refine (HRC.out _ (by (repeat (first | (with_reducible exact Below.refl _ _) | (with_reducible exact HW.out) | (with_reducible apply bl_drewN) | (with_reducible apply bl_alloc) | (with_reducible apply Below.drew))); done)).mono ?_
                rintro e w9 ⟨⟨x1', y1', x2', y2', x3', y3', rfl, hq9⟩, hb9⟩
                have HQ9 := Lib.hid hq9
                have HP1 := Lib.hid (show Below wr.heap.size wr w9 from by (refine bl_trans ?_ hb9; exact (by (repeat (first | (with_reducible exact Below.refl _ _) | (with_reducible exact HW.out) | (with_reducible apply bl_drewN) | (with_reducible apply bl_alloc) | (with_reducible apply Below.drew))); done)))
                have HS9 := Lib.hid hb9.size
                have m0 := Go.Tw.Below.at_old hb9 (alloc1_0 wr.drew _)
                clear HW hb9 hq9
                have HW := HP1
                clear HP1)
              clear hHeld
              refine hK.out _ _ (HW.out) (fun hHeld => ?_)
              clear hK K
              refine wpE_take (i := 6) (v := ?_) rfl (by kernel_rfl) (fun _ _ _ h => h) (Or.inl ⟨by kernel_rfl, ?_⟩) (by assumption) ?_
              rotate_left
              focus (intro w9 hS9; (try dsimp only at hS9); go_simp; (try with_reducible rfl))
              (try simp only [Act.put])
              (try simp only [List.setIfInBounds_toArray])
              (repeat (first | simp only [List.set_cons_succ] | simp only [List.set_cons_zero]))
              refine wpE_take (i := 7) (v := ?_) rfl (by kernel_rfl) (fun _ _ _ h => h) (Or.inl ⟨by kernel_rfl, ?_⟩) (by assumption) ?_
              rotate_left
              focus (intro w9 hS9; (try dsimp only at hS9); go_simp; (try with_reducible rfl))
              (try simp only [Act.put])
              (try simp only [List.setIfInBounds_toArray])
              (repeat (first | simp only [List.set_cons_succ] | simp only [List.set_cons_zero]))
              refine wpE_take (i := 8) (v := ?_) rfl (by kernel_rfl) (fun _ _ _ h => h) (Or.inl ⟨by kernel_rfl, ?_⟩) (by assumption) ?_
              rotate_left
              focus (intro w9 hS9; (try dsimp only at hS9); go_simp; (try with_reducible rfl))
              (try simp only [Act.put])
              (try simp only [List.setIfInBounds_toArray])
              (repeat (first | simp only [List.set_cons_succ] | simp only [List.set_cons_zero]))
              have M0 := Lib.hid (show w9.heap[wr.heap.size]? = some (.cells #[.string ⟨#[]⟩, .int .i64 0, .int .i64 0, .slice none 0 0, .slice none 0 0, .slice none 0 0] 29 (0, 0)) from m0)
              clear m0
              obtain ⟨y0', y1', y2', y3', y4', y5', yf⟩ := blk6' M0.out
              refine wpE_ready (rs := [10]) (by kernel_rfl) (by kernel_rfl) ?_
              refine AllReadyE.cons rfl (fun K hK => ?_) AllReadyE.nil
              rw [if_pos (show _ = true by kernel_rfl)]
              go_simp
              clear hHeld
              refine hK.out _ _ ((by (repeat (first | (with_reducible exact HW.out) | (with_reducible apply bl_drewN) | (with_reducible apply bl_alloc) | ((with_reducible refine bl_set ?_ _ ?_); rotate_left; focus (first | exact Nat.le_refl _ | (simp; done) | (simp; omega))))))) (fun hHeld => ?_)
              clear hK K
              clear hHeld
              refine wpE_out (by kernel_rfl) ?_
              refine wpAny_ready (rs := [11]) (by kernel_rfl) (by simp) ?_
              refine AllReady.cons rfl (fun K hK => ?_) AllReady.nil
              rw [if_pos (show _ = true by kernel_rfl)]
              go_simp
              refine hK _ _ ?_
              clear hK K
              refine wpAny_done (by kernel_rfl) ?_ _
              go_wp2_with (fail)
              go_meet
              have h9' : wr.heap.size + 1 ≤ w9.heap.size := by have := HS9.out; simpa using this
              refine ⟨_, _, _, _, _, _, _, rfl, rfl, set6_same M0.out, (by (repeat (first | (with_reducible exact HW.out) | (with_reducible apply bl_drewN) | (with_reducible apply bl_alloc) | ((with_reducible refine bl_set ?_ _ ?_); rotate_left; focus (first | exact Nat.le_refl _ | (simp; done) | (simp; omega)))))), HQ9.out.keep (fun j hj => ?_) (fun j hj => set6_ne ?_)⟩
              · rcases hj with (hj | hj) | hj
                · exact .inl hj
                · exact .inr ⟨hj.1, by have := hj.2; simp; omega⟩
                · have h1 : wr.heap.size + 1 ≤ j := by have := hj.1; simpa using this
                  exact .inr ⟨by omega, by have := hj.2; simp; omega⟩
              · rcases hj with (hj | hj) | hj
                · have := HX.out.lt HSS.out j (.inl hj); omega
                · have := hj.2; omega
                · have h1 : wr.heap.size + 1 ≤ j := by have := hj.1; simpa using this
                  omega
          case rest =>
            obtain ⟨b10, x1', y1', x2', y2', x3', y3', rfl, rfl, h10, hby, hqy⟩ := hcut
            have HXA := Lib.hid (HX.out.step HSS.out hby)
            have HQA := Lib.hid hqy
            have HCO := Lib.hid (HDC.out.trans (by rw [HQE.out]))
            clear HRC HDC hqy hby HX
            obtain ⟨c0, c1, c2, c3, c4, c5, cf'⟩ := blk6' HXA.out.bx
            obtain ⟨r0, r1, r2, r3, r4, r5, rf⟩ := blk6' HXA.out.rx
            obtain ⟨g0, g1, g2, g3, g4, g5, gf⟩ := blk6' h10
            clear h10
            by_cases z0' : er = 0
            · have z0'' : (er == 0) = true := by simpa using z0'
              have z0n : (er != 0) = false := by simpa using z0'
              have HC2 := Lib.hid (HCO.out.trans (if_pos z0'))
              have HPU := Lib.hid (HXA.out.put HSS.out (Below.refl _ _) HQA.out)
              have HSQ' := Lib.hid (show SmallP q' by have := HSQ.out.recv f; rw [HQE.out] at this; exact this)
              clear z0'
              go_wp2_with (fail)
              go_roundg (fs.length - (k + 1))
              case measure => omega
              case rel => exact ⟨k + 1, q', _, _, _, by omega, by go_num, HPU.out, HSQ'.out, HC2⟩
            · have z0'' : (er == 0) = false := by simpa using z0'
              have z0n : (er != 0) = true := by simpa using z0'
              have HC2 := Lib.hid (HCO.out.trans (if_neg z0'))
              by_cases z1' : er = 31
              · have z1'' : (er != 31) = false := by simpa using z1'
                have HC3 := Lib.hid (HC2.out.trans (if_pos z1'))
                clear z0' z1'
                go_wp2_with (fail)
                go_roundg (fs.length - (k + 1))
                case measure => omega
                case rel => exact ⟨k + 1, q, _, _, _, by omega, by go_num, HXA.out, HSQ.out, HC3⟩
              · have z1'' : (er != 31) = true := by simpa using z1'
                have HC3 := Lib.hid (HC2.out.trans (if_neg z1'))
                clear z0' z1'
                go_wp2_with (fail)
                (try unfold Exit.noGoto)
                refine bodyPost_ret (v := .tuple #[.agg #[.string q.nm, .int .i64 q.out, .int .i64 q.inn, .slice x1 q.wt.length y1, .slice x2 q.ours.length y2, .slice x3 q.thr.length y3], .int .i64 er]) (by simp [results, Tryz.results30, go_sem, r0, r1, r2, r3, r4, r5]) rfl ⟨pes_mk HC3.out (HXA.out.ok.keep (fun k hk => ?_) (fun k hk => set6_ne ?_)), ?_⟩
                · rcases hk with hk | hk
                  · exact .inl hk
                  · exact .inr ⟨by omega, by have := hk.2; simpa using this⟩
                · rcases hk with hk | hk
                  · have := HSS.out k hk; omega
                  · omega
                · (repeat (first | (with_reducible exact HXA.out.bel) | (with_reducible apply bl_drewN) | (with_reducible apply bl_alloc) | ((with_reducible refine bl_set ?_ _ ?_); rotate_left; focus (first | exact Nat.le_refl _ | (simp; done) | (simp; omega)))))
        · have hkb2 : k < (bs.drop n0).length := by rw [List.length_drop]; omega
          go_wp2_with (fail)
          go_roundg (fs.length - (k + 1))
          case measure => omega
          case rel => exact ⟨k + 1, q, _, _, _, by omega, by go_num, HX.out, HSQ.out, Lib.hid (HE.out.trans (deliv_lost hlt hkb2 (HBE.out hkb2)))⟩
      · have HNL := Lib.hid (show ∀ h : k < (bs.drop n0).length, (bs.drop n0)[k] = false from fun h => absurd h (by rw [List.length_drop]; omega))
        have l1 : (bs.length : Int) ≤ (n0 : Int) + (k : Int) := by omega
        have HDC := Lib.hid (HE.out.trans ((deliv_come (bs := bs.drop n0) hlt HNL.out).trans (by rw [HFK.out])))
        obtain ⟨q', er, hqe⟩ : ∃ q' er, recvC q f = (q', er) := ⟨_, _, rfl⟩
        have HQE := Lib.hid hqe
        have HRC := Lib.hid (show ∀ W', Below wr.heap.size wr W' → Calls Tryz.prog 55 #[.agg #[.string q.nm, .int .i64 q.out, .int .i64 q.inn, .slice x1 q.wt.length y1, .slice x2 q.ours.length y2, .slice x3 q.thr.length y3], .agg #[.string f.fr, .string f.to, .int .i64 f.sq, .slice ah f.rs.length ch]] W'
            fun e w' => (∃ u1 c1 u2 c2 u3 c3, e = .returned (.tuple #[.agg #[.string q'.nm, .int .i64 q'.out, .int .i64 q'.inn, .slice u1 q'.wt.length c1, .slice u2 q'.ours.length c2, .slice u3 q'.thr.length c3], .int .i64 er]) ∧ ParOk (fun k => (S k ∨ (w.heap.size + 2 ≤ k ∧ k < wr.heap.size)) ∨ (W'.heap.size ≤ k ∧ k < w'.heap.size)) w' q' (.slice u1 q'.wt.length c1) (.slice u2 q'.ours.length c2) (.slice u3 q'.thr.length c3)) ∧ Below W'.heap.size W' w' from fun W' hW => by
          refine (recvR_gen (fun k => S k ∨ (w.heap.size + 2 ≤ k ∧ k < wr.heap.size)) q f _ _ _ _ W' (HX.out.ok.keep (fun _ h => h) (fun k hk => hW.block k (HX.out.lt HSS.out k hk))) (fun k hk => Nat.lt_of_lt_of_le (HX.out.lt HSS.out k hk) hW.size) HSQ.out (HOK.out.keep (fun k hk => by have := HX.out.bel.size; have := hW.size; omega) (fun k hk => hW.block k (by have := HX.out.bel.size; omega)))).mono ?_
          rintro e w' ⟨he, hb'⟩
          rw [HQE.out] at he
          obtain ⟨v1, v2, v3, rfl, hq'⟩ := he
          dsimp only at hq' ⊢
          obtain ⟨u1, c1, _, _, rfl, -⟩ := id hq'.wt
          obtain ⟨u2, c2, _, _, rfl, -⟩ := id hq'.ours
          obtain ⟨u3, c3, _, _, rfl, -⟩ := id hq'.thr
          exact ⟨⟨u1, c1, u2, c2, u3, c3, rfl, hq'⟩, hb'⟩)
        clear hqe
        go_upto_region 5 with (fail)
        go_cut [11, 12] (fun v11 v12 wy => ∃ b10 u1 c1 u2 c2 u3 c3, v11 = .pointer (some ⟨b10, 0, none⟩) ∧ v12 = .int .i64 er ∧ wy.heap[b10]? = some (.cells #[.string q'.nm, .int .i64 q'.out, .int .i64 q'.inn, .slice u1 q'.wt.length c1, .slice u2 q'.ours.length c2, .slice u3 q'.thr.length c3] 29 (0, 0)) ∧ Below wr.heap.size wr wy ∧ ParOk (fun k => S k ∨ (w.heap.size + 2 ≤ k ∧ k < wy.heap.size)) wy q' (.slice u1 q'.wt.length c1) (.slice u2 q'.ours.length c2) (.slice u3 q'.thr.length c3))
        case first =>
          have HXA := Lib.hid (box6D HX.out.bx)
          have HW := Lib.hid (Below.refl wr.heap.size wr)
          have hnr : w.heap.size + 2 ≤ wr.heap.size := by have := lt_of_heap HX.out.rx; omega
          have hbr : bf < wr.heap.size := by have := HX.out.bel.size; omega
          have HFC := Lib.hid (show ∀ W', Below wr.heap.size wr W' → W'.cell? ⟨bf, of + k * 4, none⟩ = some (.string f.fr) ∧ W'.cell? ⟨bf, of + k * 4 + 1, none⟩ = some (.string f.to) ∧ W'.cell? ⟨bf, of + k * 4 + 2, none⟩ = some (.int .i64 f.sq) ∧ W'.cell? ⟨bf, of + k * 4 + 3, none⟩ = some (.slice ah f.rs.length ch) from fun W' hW =>
            ⟨(hW.cell (p := ⟨bf, of + k * 4, none⟩) hbr).trans d0, (hW.cell (p := ⟨bf, of + k * 4 + 1, none⟩) hbr).trans d1, (hW.cell (p := ⟨bf, of + k * 4 + 2, none⟩) hbr).trans d2, (hW.cell (p := ⟨bf, of + k * 4 + 3, none⟩) hbr).trans d3⟩)
          clear d0 d1 d2 d3
          refine wp_region_E 11 (fun w' => Below wr.heap.size wr w') (by kernel_rfl) ((by (repeat (first | (with_reducible exact Below.refl _ _) | (with_reducible exact HW.out) | (with_reducible apply bl_drewN) | (with_reducible apply bl_alloc) | (with_reducible apply Below.drew))); done)) (fun hHeld => ?_)
          refine wpE_take (i := 0) (v := ?_) rfl (by kernel_rfl) (fun _ _ _ h => h) (Or.inl ⟨by kernel_rfl, ?_⟩) (by assumption) ?_
          rotate_left
          focus (intro w9 hS9; obtain ⟨z0, z1, z2, z3, z4, z5⟩ := HXA.out w9 hS9; clear hS9; go_simp; (try with_reducible rfl))
          (try simp only [Act.put])
          (try simp only [List.setIfInBounds_toArray])
          (repeat (first | simp only [List.set_cons_succ] | simp only [List.set_cons_zero]))
          refine wpE_take (i := 1) (v := ?_) rfl (by kernel_rfl) (fun _ _ _ h => h) (Or.inl ⟨by kernel_rfl, ?_⟩) (by assumption) ?_
          rotate_left
          focus (intro w9 hS9; (try dsimp only at hS9); go_simp; (try with_reducible rfl))
          (try simp only [Act.put])
          (try simp only [List.setIfInBounds_toArray])
          (repeat (first | simp only [List.set_cons_succ] | simp only [List.set_cons_zero]))
          refine wpE_take (i := 2) (v := ?_) rfl (by kernel_rfl) (fun _ _ _ h => h) (Or.inl ⟨by kernel_rfl, ?_⟩) (by assumption) ?_
          rotate_left
          focus (intro w9 hS9; (try dsimp only at hS9); go_simp; (try with_reducible rfl))
          (try simp only [Act.put])
          (try simp only [List.setIfInBounds_toArray])
          (repeat (first | simp only [List.set_cons_succ] | simp only [List.set_cons_zero]))
          refine wpE_take (i := 3) (v := ?_) rfl (by kernel_rfl) (fun _ _ _ h => h) (Or.inl ⟨by kernel_rfl, ?_⟩) (by assumption) ?_
          rotate_left
          focus (intro w9 hS9; (try dsimp only at hS9); go_simp; (try with_reducible rfl))
          (try simp only [Act.put])
          (try simp only [List.setIfInBounds_toArray])
          (repeat (first | simp only [List.set_cons_succ] | simp only [List.set_cons_zero]))
          refine wpE_take (i := 4) (v := ?_) rfl (by kernel_rfl) (fun _ _ _ h => h) (Or.inl ⟨by kernel_rfl, ?_⟩) (by assumption) ?_
          rotate_left
          focus (intro w9 hS9; obtain ⟨z0, z1, z2, z3⟩ := HFC.out w9 hS9; clear hS9; go_simp; (try with_reducible rfl))
          (try simp only [Act.put])
          (try simp only [List.setIfInBounds_toArray])
          (repeat (first | simp only [List.set_cons_succ] | simp only [List.set_cons_zero]))
          refine wpE_ready (rs := [5, 9]) (by kernel_rfl) (by kernel_rfl) ?_
          refine AllReadyE.cons rfl (fun K hK => ?_) (AllReadyE.cons rfl (fun K hK => ?_) AllReadyE.nil)
          · rw [if_pos (show _ = true by kernel_rfl)]
            go_simp
            go_wp2_with (
              go_at_call 55
              refine (HRC.out _ (by (repeat (first | (with_reducible exact Below.refl _ _) | (with_reducible exact HW.out) | (with_reducible apply bl_drewN) | (with_reducible apply bl_alloc) | (with_reducible apply Below.drew))); done)).mono ?_
              rintro e w9 ⟨⟨x1', y1', x2', y2', x3', y3', rfl, hq9⟩, hb9⟩
              have HQ9 := Lib.hid hq9
              have HP1 := Lib.hid (show Below wr.heap.size wr w9 from by (refine bl_trans ?_ hb9; exact (by (repeat (first | (with_reducible exact Below.refl _ _) | (with_reducible exact HW.out) | (with_reducible apply bl_drewN) | (with_reducible apply bl_alloc) | (with_reducible apply Below.drew))); done)))
              have HS9 := Lib.hid hb9.size
              skip
              clear HW hb9 hq9
              have HW := HP1
              clear HP1)
            clear hHeld
            refine hK.out _ _ (HW.out) (fun hHeld => ?_)
            clear hK K
            refine wpE_take (i := 6) (v := ?_) rfl (by kernel_rfl) (fun _ _ _ h => h) (Or.inl ⟨by kernel_rfl, ?_⟩) (by assumption) ?_
            rotate_left
            focus (intro w9 hS9; (try dsimp only at hS9); go_simp; (try with_reducible rfl))
            (try simp only [Act.put])
            (try simp only [List.setIfInBounds_toArray])
            (repeat (first | simp only [List.set_cons_succ] | simp only [List.set_cons_zero]))
            refine wpE_take (i := 7) (v := ?_) rfl (by kernel_rfl) (fun _ _ _ h => h) (Or.inl ⟨by kernel_rfl, ?_⟩) (by assumption) ?_
            rotate_left
            focus (intro w9 hS9; (try dsimp only at hS9); go_simp; (try with_reducible rfl))
            (try simp only [Act.put])
            (try simp only [List.setIfInBounds_toArray])
            (repeat (first | simp only [List.set_cons_succ] | simp only [List.set_cons_zero]))
            refine wpE_take (i := 8) (v := ?_) rfl (by kernel_rfl) (fun _ _ _ h => h) (Or.inl ⟨by kernel_rfl, ?_⟩) (by assumption) ?_
            rotate_left
            focus (intro w9 hS9; (try dsimp only at hS9); go_simp; (try with_reducible rfl))
            (try simp only [Act.put])
            (try simp only [List.setIfInBounds_toArray])
            (repeat (first | simp only [List.set_cons_succ] | simp only [List.set_cons_zero]))
            refine wpE_ready (rs := [9]) (by kernel_rfl) (by kernel_rfl) ?_
            refine AllReadyE.cons rfl (fun K hK => ?_) AllReadyE.nil
            rw [if_pos (show _ = true by kernel_rfl)]
            go_simp
            clear hHeld
            refine hK.out _ _ ((by (repeat (first | (with_reducible exact Below.refl _ _) | (with_reducible exact HW.out) | (with_reducible apply bl_drewN) | (with_reducible apply bl_alloc) | (with_reducible apply Below.drew))); done)) (fun hHeld => ?_)
            clear hK K
            refine wpE_ready (rs := [10]) (by kernel_rfl) (by kernel_rfl) ?_
            refine AllReadyE.cons rfl (fun K hK => ?_) AllReadyE.nil
            rw [if_pos (show _ = true by kernel_rfl)]
            go_simp
            clear hHeld
            refine hK.out _ _ ((by (repeat (first | (with_reducible exact Below.refl _ _) | (with_reducible exact HW.out) | (with_reducible apply bl_drewN) | (with_reducible apply bl_alloc) | (with_reducible apply Below.drew))); done)) (fun hHeld => ?_)
            clear hK K
            clear hHeld
            refine wpE_out (by kernel_rfl) ?_
            refine wpAny_ready (rs := [11]) (by kernel_rfl) (by simp) ?_
            refine AllReady.cons rfl (fun K hK => ?_) AllReady.nil
            rw [if_pos (show _ = true by kernel_rfl)]
            go_simp
            refine hK _ _ ?_
            clear hK K
            refine wpAny_done (by kernel_rfl) ?_ _
            go_wp2_with (fail)
            go_meet
            refine ⟨_, _, _, _, _, _, _, rfl, rfl, alloc1_0 _ _, bl_alloc HW.out _, HQ9.out.keep (fun j hj => ?_) (fun j hj => Below.heap_alloc _ _ _ ?_)⟩
            · have h9 := HS9.out
              have h9' : wr.heap.size ≤ w9.heap.size := h9
              rcases hj with (hj | hj) | hj
              · exact .inl hj
              · exact .inr ⟨hj.1, by have := hj.2; simp; omega⟩
              · have h1 : wr.heap.size ≤ j := hj.1
                exact .inr ⟨by omega, by have := hj.2; simp; omega⟩
            · have h9' : wr.heap.size ≤ w9.heap.size := HS9.out
              rcases hj with (hj | hj) | hj
              · have := HX.out.lt HSS.out j (.inl hj); omega
              · have := hj.2; omega
              · exact hj.2
          · rw [if_pos (show _ = true by kernel_rfl)]
            go_simp
            clear hHeld
            refine hK.out _ _ ((by (repeat (first | (with_reducible exact Below.refl _ _) | (with_reducible exact HW.out) | (with_reducible apply bl_drewN) | (with_reducible apply bl_alloc) | (with_reducible apply Below.drew))); done)) (fun hHeld => ?_)
            clear hK K
            refine wpE_ready (rs := [5]) (by kernel_rfl) (by kernel_rfl) ?_
            refine AllReadyE.cons rfl (fun K hK => ?_) AllReadyE.nil
            rw [if_pos (show _ = true by kernel_rfl)]
            go_simp
            go_wp2_with (
              go_at_call 55
              refine (HRC.out _ (by (repeat (first | (with_reducible exact Below.refl _ _) | (with_reducible exact HW.out) | (with_reducible apply bl_drewN) | (with_reducible apply bl_alloc) | (with_reducible apply Below.drew))); done)).mono ?_
              rintro e w9 ⟨⟨x1', y1', x2', y2', x3', y3', rfl, hq9⟩, hb9⟩
              have HQ9 := Lib.hid hq9
              have HP1 := Lib.hid (show Below wr.heap.size wr w9 from by (refine bl_trans ?_ hb9; exact (by (repeat (first | (with_reducible exact Below.refl _ _) | (with_reducible exact HW.out) | (with_reducible apply bl_drewN) | (with_reducible apply bl_alloc) | (with_reducible apply Below.drew))); done)))
              have HS9 := Lib.hid hb9.size
              have m0 := Go.Tw.Below.at_old hb9 (alloc1_0 wr.drew _)
              clear HW hb9 hq9
              have HW := HP1
              clear HP1)
            clear hHeld
            refine hK.out _ _ (HW.out) (fun hHeld => ?_)
            clear hK K
            refine wpE_take (i := 6) (v := ?_) rfl (by kernel_rfl) (fun _ _ _ h => h) (Or.inl ⟨by kernel_rfl, ?_⟩) (by assumption) ?_
            rotate_left
            focus (intro w9 hS9; (try dsimp only at hS9); go_simp; (try with_reducible rfl))
            (try simp only [Act.put])
            (try simp only [List.setIfInBounds_toArray])
            (repeat (first | simp only [List.set_cons_succ] | simp only [List.set_cons_zero]))
            refine wpE_take (i := 7) (v := ?_) rfl (by kernel_rfl) (fun _ _ _ h => h) (Or.inl ⟨by kernel_rfl, ?_⟩) (by assumption) ?_
            rotate_left
            focus (intro w9 hS9; (try dsimp only at hS9); go_simp; (try with_reducible rfl))
            (try simp only [Act.put])
            (try simp only [List.setIfInBounds_toArray])
            (repeat (first | simp only [List.set_cons_succ] | simp only [List.set_cons_zero]))
            refine wpE_take (i := 8) (v := ?_) rfl (by kernel_rfl) (fun _ _ _ h => h) (Or.inl ⟨by kernel_rfl, ?_⟩) (by assumption) ?_
            rotate_left
            focus (intro w9 hS9; (try dsimp only at hS9); go_simp; (try with_reducible rfl))
            (try simp only [Act.put])
            (try simp only [List.setIfInBounds_toArray])
            (repeat (first | simp only [List.set_cons_succ] | simp only [List.set_cons_zero]))
            have M0 := Lib.hid (show w9.heap[wr.heap.size]? = some (.cells #[.string ⟨#[]⟩, .int .i64 0, .int .i64 0, .slice none 0 0, .slice none 0 0, .slice none 0 0] 29 (0, 0)) from m0)
            clear m0
            obtain ⟨y0', y1', y2', y3', y4', y5', yf⟩ := blk6' M0.out
            refine wpE_ready (rs := [10]) (by kernel_rfl) (by kernel_rfl) ?_
            refine AllReadyE.cons rfl (fun K hK => ?_) AllReadyE.nil
            rw [if_pos (show _ = true by kernel_rfl)]
            go_simp
            clear hHeld
            refine hK.out _ _ ((by (repeat (first | (with_reducible exact HW.out) | (with_reducible apply bl_drewN) | (with_reducible apply bl_alloc) | ((with_reducible refine bl_set ?_ _ ?_); rotate_left; focus (first | exact Nat.le_refl _ | (simp; done) | (simp; omega))))))) (fun hHeld => ?_)
            clear hK K
            clear hHeld
            refine wpE_out (by kernel_rfl) ?_
            refine wpAny_ready (rs := [11]) (by kernel_rfl) (by simp) ?_
            refine AllReady.cons rfl (fun K hK => ?_) AllReady.nil
            rw [if_pos (show _ = true by kernel_rfl)]
            go_simp
            refine hK _ _ ?_
            clear hK K
            refine wpAny_done (by kernel_rfl) ?_ _
            go_wp2_with (fail)
            go_meet
            have h9' : wr.heap.size + 1 ≤ w9.heap.size := by have := HS9.out; simpa using this
            refine ⟨_, _, _, _, _, _, _, rfl, rfl, set6_same M0.out, (by (repeat (first | (with_reducible exact HW.out) | (with_reducible apply bl_drewN) | (with_reducible apply bl_alloc) | ((with_reducible refine bl_set ?_ _ ?_); rotate_left; focus (first | exact Nat.le_refl _ | (simp; done) | (simp; omega)))))), HQ9.out.keep (fun j hj => ?_) (fun j hj => set6_ne ?_)⟩
            · rcases hj with (hj | hj) | hj
              · exact .inl hj
              · exact .inr ⟨hj.1, by have := hj.2; simp; omega⟩
              · have h1 : wr.heap.size + 1 ≤ j := by have := hj.1; simpa using this
                exact .inr ⟨by omega, by have := hj.2; simp; omega⟩
            · rcases hj with (hj | hj) | hj
              · have := HX.out.lt HSS.out j (.inl hj); omega
              · have := hj.2; omega
              · have h1 : wr.heap.size + 1 ≤ j := by have := hj.1; simpa using this
                omega
        case rest =>
          obtain ⟨b10, x1', y1', x2', y2', x3', y3', rfl, rfl, h10, hby, hqy⟩ := hcut
          have HXA := Lib.hid (HX.out.step HSS.out hby)
          have HQA := Lib.hid hqy
          have HCO := Lib.hid (HDC.out.trans (by rw [HQE.out]))
          clear HRC HDC hqy hby HX
          obtain ⟨c0, c1, c2, c3, c4, c5, cf'⟩ := blk6' HXA.out.bx
          obtain ⟨r0, r1, r2, r3, r4, r5, rf⟩ := blk6' HXA.out.rx
          obtain ⟨g0, g1, g2, g3, g4, g5, gf⟩ := blk6' h10
          clear h10
          by_cases z0' : er = 0
          · have z0'' : (er == 0) = true := by simpa using z0'
            have z0n : (er != 0) = false := by simpa using z0'
            have HC2 := Lib.hid (HCO.out.trans (if_pos z0'))
            have HPU := Lib.hid (HXA.out.put HSS.out (Below.refl _ _) HQA.out)
            have HSQ' := Lib.hid (show SmallP q' by have := HSQ.out.recv f; rw [HQE.out] at this; exact this)
            clear z0'
            go_wp2_with (fail)
            go_roundg (fs.length - (k + 1))
            case measure => omega
            case rel => exact ⟨k + 1, q', _, _, _, by omega, by go_num, HPU.out, HSQ'.out, HC2⟩
          · have z0'' : (er == 0) = false := by simpa using z0'
            have z0n : (er != 0) = true := by simpa using z0'
            have HC2 := Lib.hid (HCO.out.trans (if_neg z0'))
            by_cases z1' : er = 31
            · have z1'' : (er != 31) = false := by simpa using z1'
              have HC3 := Lib.hid (HC2.out.trans (if_pos z1'))
              clear z0' z1'
              go_wp2_with (fail)
              go_roundg (fs.length - (k + 1))
              case measure => omega
              case rel => exact ⟨k + 1, q, _, _, _, by omega, by go_num, HXA.out, HSQ.out, HC3⟩
            · have z1'' : (er != 31) = true := by simpa using z1'
              have HC3 := Lib.hid (HC2.out.trans (if_neg z1'))
              clear z0' z1'
              go_wp2_with (fail)
              (try unfold Exit.noGoto)
              refine bodyPost_ret (v := .tuple #[.agg #[.string q.nm, .int .i64 q.out, .int .i64 q.inn, .slice x1 q.wt.length y1, .slice x2 q.ours.length y2, .slice x3 q.thr.length y3], .int .i64 er]) (by simp [results, Tryz.results30, go_sem, r0, r1, r2, r3, r4, r5]) rfl ⟨pes_mk HC3.out (HXA.out.ok.keep (fun k hk => ?_) (fun k hk => set6_ne ?_)), ?_⟩
              · rcases hk with hk | hk
                · exact .inl hk
                · exact .inr ⟨by omega, by have := hk.2; simpa using this⟩
              · rcases hk with hk | hk
                · have := HSS.out k hk; omega
                · omega
              · (repeat (first | (with_reducible exact HXA.out.bel) | (with_reducible apply bl_drewN) | (with_reducible apply bl_alloc) | ((with_reducible refine bl_set ?_ _ ?_); rotate_left; focus (first | exact Nat.le_refl _ | (simp; done) | (simp; omega)))))
    · have hkd : decide ((fs.length : Int) < (fs.length : Int)) = false := by simp
      obtain rfl : k = fs.length := by omega
      have HE2 := Lib.hid (HE.out.trans (deliv_end (Nat.le_refl _)))
      obtain ⟨c0, c1, c2, c3, c4, c5, cf'⟩ := blk6' HX.out.bx
      obtain ⟨r0, r1, r2, r3, r4, r5, rf⟩ := blk6' HX.out.rx
      clear hlt hk
      go_wp2_with (fail)
      (try unfold Exit.noGoto)
      refine bodyPost_ret (v := .tuple #[.agg #[.string q.nm, .int .i64 q.out, .int .i64 q.inn, .slice x1 q.wt.length y1, .slice x2 q.ours.length y2, .slice x3 q.thr.length y3], .int .i64 0]) (by simp [results, Tryz.results30, go_sem, r0, r1, r2, r3, r4, r5]) rfl ⟨pes_mk HE2.out (HX.out.ok.keep (fun k hk => ?_) (fun k hk => set6_ne ?_)), ?_⟩
      · rcases hk with hk | hk
        · exact .inl hk
        · exact .inr ⟨by omega, by have := hk.2; simpa using this⟩
      · rcases hk with hk | hk
        · have := HSS.out k hk; omega
        · omega
      · (repeat (first | (with_reducible exact HX.out.bel) | (with_reducible apply bl_drewN) | (with_reducible apply bl_alloc) | ((with_reducible refine bl_set ?_ _ ?_); rotate_left; focus (first | exact Nat.le_refl _ | (simp; done) | (simp; omega)))))
end Go.Proofs.YtmjbbpappigngaaGreat
