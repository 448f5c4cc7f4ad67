/-
  Layer 43 (exchange): the law ExchangeKeeps.
-/
import Derived.Test.YthdbojbblkfhaaaExcLaws
import Derived.Test.YthdbojbblkfhaaaExcKeepP
namespace Go.Proofs.Ythdbojbblkfhaaa
open Go.RowKit Go.Tw Go.Tw.Exc Go.ChangeShapes Go.WideShapes
theorem opensRecss {e e2 : TypeId} : Opens Try.prog 54 ((tRec.list e).list e2) := opens_slice Try.underlying54 (by kernel_rfl) (show 0 < 1 by decide) opensRecs
theorem opensIntsX {e : TypeId} : Opens Try.prog 60 (tInt.list e) := opens_slice Try.underlying60 (by kernel_rfl) (by decide) (opens_int Try.underlying3)
/-- lists of records: the cells -/
theorem lists_open {S : Nat → Prop} {w : World} {v : Value} {l : List (List Rec)} {e : TypeId} (h : SlIs (tRec.list e) S w v l) :
    ∃ ao cap b off, v = .slice ao l.length cap ∧ l.length ≤ cap ∧ cap ≤ maxLen ∧ ∀ w', SameOn S w w' → ∀ k (_ : k < l.length), ao = some ⟨b, off, none⟩ ∧ S b ∧ b < w.heap.size ∧ ∃ vl, SlIs tRec S w' vl l[k] ∧ w'.cell? ⟨b, off + k, none⟩ = some vl := by
  obtain ⟨ao, cap, b, off, hv, h1, h2, h3⟩ := h.openS
  refine ⟨ao, cap, b, off, hv, h1, h2, fun w' hw k hk => ?_⟩
  obtain ⟨g1, g2, g2', cs, g3, u, rfl, g5⟩ := h3 w' hw k hk
  refine ⟨g1, g2, g2', u, g5, ?_⟩
  have := g3 0 (by show 0 < 1; decide)
  rw [show off + k * (tRec.list e).sz + 0 = off + k from by show off + k * 1 + 0 = off + k; omega] at this
  exact this
/-- a partner in the box b1, the file in the first box -/
structure KB (W : World) (b1 : Nat) (f : Fil) (vf : Value) (p : Par) (v1 v2 v3 : Value) (w : World) : Prop where
  bel : Below W.heap.size W w
  fb : w.heap[W.heap.size]? = some (.cells #[.string f.fr, .string f.to, .int .i64 f.sq, vf] 30 (0, 0))
  pb : w.heap[b1]? = some (.cells #[.string p.nm, .int .i64 p.out, .int .i64 p.inn, v1, v2, v3] 25 (0, 0))
  ok : ParOk (fun k => k < w.heap.size ∧ k ≠ b1) w p v1 v2 v3
theorem KB.step {W w w' : World} {b1 : Nat} {f : Fil} {vf : Value} {p : Par} {v1 v2 v3 : Value} (h : KB W b1 f vf p v1 v2 v3 w) (hb : Below w.heap.size w w') : KB W b1 f vf p v1 v2 v3 w' :=
  ⟨bl_trans h.bel hb, Go.Tw.Below.at_old hb h.fb, Go.Tw.Below.at_old hb h.pb, h.ok.keep (fun _ hk => ⟨Nat.lt_of_lt_of_le hk.1 hb.size, hk.2⟩) (fun k hk => hb.block k hk.1)⟩
theorem KB.set {W w w' : World} {b1 : Nat} {f : Fil} {vf : Value} {p q : Par} {v1 v2 v3 u1 u2 u3 : Value} (h : KB W b1 f vf p v1 v2 v3 w) (hb : Below w.heap.size w w') (hW : W.heap.size < b1)
    (hq : ParOk (fun k => (k < w.heap.size ∧ k ≠ b1) ∨ (w.heap.size ≤ k ∧ k < w'.heap.size)) w' q u1 u2 u3) :
    KB W b1 f vf q u1 u2 u3 ((((((w'.setCell ⟨b1, 0, none⟩ (.string q.nm)).setCell ⟨b1, 1, none⟩ (.int .i64 q.out)).setCell ⟨b1, 2, none⟩ (.int .i64 q.inn)).setCell ⟨b1, 3, none⟩ u1).setCell ⟨b1, 4, none⟩ u2).setCell ⟨b1, 5, none⟩ u3) := by
  have h2 := h.step hb
  have hlt := lt_of_heap h.pb
  have hs := hb.size
  have hle : W.heap.size ≤ b1 := Nat.le_of_lt hW
  refine ⟨bl_set (bl_set (bl_set (bl_set (bl_set (bl_set h2.bel _ hle) _ hle) _ hle) _ hle) _ hle) _ hle, (set6_ne (by omega)).trans h2.fb, set6_same h2.pb, hq.keep (fun k hk => ?_) (fun k hk => set6_ne ?_)⟩
  · refine ⟨?_, ?_⟩
    · have : k < w'.heap.size := by rcases hk with q | q <;> omega
      simpa using this
    · rcases hk with q | q
      · exact q.2
      · omega
  · rcases hk with q | q
    · exact q.2
    · omega
theorem Kept.small {n : Nat} {most : Int} {p : Par} (h : Kept n most p) (hn : n ≤ 10) : SmallP p :=
  ⟨by have := h.sz; omega, fun f hf => by have := h.rs f hf; omega, by have := h.ours; omega, by rw [h.thr]; simp⟩
theorem pes_form {S : Nat → Prop} {w w' : World} {e : Ending} {q : Par × Int} (h : PEs S w w' e q) : ∃ a1 c1 a2 c2 a3 c3, e = .returned (.tuple #[.agg #[.string q.1.nm, .int .i64 q.1.out, .int .i64 q.1.inn, .slice a1 q.1.wt.length c1, .slice a2 q.1.ours.length c2, .slice a3 q.1.thr.length c3], .int .i64 q.2]) ∧ ParOk (fun k => S k ∨ (w.heap.size ≤ k ∧ k < w'.heap.size)) w' q.1 (.slice a1 q.1.wt.length c1) (.slice a2 q.1.ours.length c2) (.slice a3 q.1.thr.length c3) := by
  obtain ⟨vw, vo, vt, rfl, ho⟩ := h
  obtain ⟨a1, c1, _, _, rfl, -⟩ := id ho.wt
  obtain ⟨a2, c2, _, _, rfl, -⟩ := id ho.ours
  obtain ⟨a3, c3, _, _, rfl, -⟩ := id ho.thr
  exact ⟨_, _, _, _, _, _, rfl, ho⟩
theorem ses_form {S : Nat → Prop} {w w' : World} {e : Ending} {q : Par × Fil × Int} (h : SEs S w w' e q) : ∃ a1 c1 a2 c2 a3 c3 a4 c4, e = .returned (.tuple #[.agg #[.string q.1.nm, .int .i64 q.1.out, .int .i64 q.1.inn, .slice a1 q.1.wt.length c1, .slice a2 q.1.ours.length c2, .slice a3 q.1.thr.length c3], .agg #[.string q.2.1.fr, .string q.2.1.to, .int .i64 q.2.1.sq, .slice a4 q.2.1.rs.length c4], .int .i64 q.2.2]) ∧
    ParOk (fun k => S k ∨ (w.heap.size ≤ k ∧ k < w'.heap.size)) w' q.1 (.slice a1 q.1.wt.length c1) (.slice a2 q.1.ours.length c2) (.slice a3 q.1.thr.length c3) ∧ FilOk (fun k => w.heap.size ≤ k ∧ k < w'.heap.size) w' q.2.1 (.slice a4 q.2.1.rs.length c4) := by
  obtain ⟨vw, vo, vt, vf, rfl, ho, hf⟩ := h
  obtain ⟨a1, c1, _, _, rfl, -⟩ := id ho.wt
  obtain ⟨a2, c2, _, _, rfl, -⟩ := id ho.ours
  obtain ⟨a3, c3, _, _, rfl, -⟩ := id ho.thr
  obtain ⟨a4, c4, _, _, rfl, -⟩ := id hf.rs
  exact ⟨_, _, _, _, _, _, _, _, rfl, ho, hf⟩
set_option maxRecDepth 100000 in
set_option maxHeartbeats 8000000 in
theorem keeps_walk : LawWalk Try.prog 8 Try.f8 := by
  intro H enc W base args ds ps hval hA hsz
  rw [Try.params8] at hA hval
  obtain ⟨v0, v1, v2, d0, d1, d2, p0, p1, p2, rfl, rfl, rfl, h0, h1, h2⟩ := trodAll_three hA
  obtain ⟨ll, hl⟩ := arg_slice Try.underlying54 (opensRecss (e := 51) (e2 := 23)) (hval 0 _ _ rfl rfl) h0
  obtain ⟨ack, ha⟩ := arg_slice Try.underlying60 (opensIntsX (e := 3)) (hval 1 _ _ rfl rfl) h1
  obtain ⟨f, vf, rfl, hf⟩ := arg_fil (hval 2 _ _ rfl rfl) h2
  clear hA hval h0 h1 h2 hsz
  obtain ⟨al, cl, bl, ol, rfl, hl1, hl2, hlo⟩ := lists_open hl
  obtain ⟨aa, ca, ba, oa, rfl, ha1, ha2, hao⟩ := ints_open ha
  obtain ⟨af, cF, _, _, rfl, -⟩ := id hf.rs
  unfold maxLen at hl2 ha2
  have HF := Lib.hid hf
  have HLO := Lib.hid hlo
  have HAO := Lib.hid hao
  clear hf hl ha hlo hao
  go_enter Try.func8, Try.ntmps8
  by_cases q1 : 10 < ll.length
  · have hq : (10 : Int) < (ll.length : Int) := by omega
    go_wp2_with (fail)
    refine (awake_any _).mono ?_
    rintro e wz ⟨rfl, hbz⟩
    have HZ := Lib.hid (bl_trans (bl_alloc (Below.refl W.heap.size W) _) hbz)
    clear hbz
    go_wp2_with (fail)
    go_ret
    exact ⟨rfl, HZ.out⟩
  have hq1 : ¬ (10 : Int) < (ll.length : Int) := by omega
  by_cases q2 : 20 < ack.length
  · have hq : (20 : Int) < (ack.length : Int) := by omega
    go_wp2_with (fail)
    refine (awake_any _).mono ?_
    rintro e wz ⟨rfl, hbz⟩
    have HZ := Lib.hid (bl_trans (bl_alloc (Below.refl W.heap.size W) _) hbz)
    clear hbz
    go_wp2_with (fail)
    go_ret
    exact ⟨rfl, HZ.out⟩
  have hq2 : ¬ (20 : Int) < (ack.length : Int) := by omega
  clear q2
  go_wp2_with (fail)
  refine (heavy_any f.rs _ _ (HF.out.rs.step (by (repeat (first | (with_reducible exact Below.refl _ _) | (with_reducible apply bl_drewN) | (with_reducible apply bl_alloc) | (with_reducible apply Below.drew))); done))).mono ?_
  rintro e w1 ⟨rfl, hb⟩
  have HF1 := Lib.hid (Go.Tw.Below.at_old hb (alloc1_0 W _))
  have HB := Lib.hid (bl_trans (bl_alloc (Below.refl W.heap.size W) _) hb)
  clear hb
  cases hh : heavyC f.rs
  case true =>
    clear hh
    go_wp2_with (fail)
    refine (awake_any _).mono ?_
    rintro e wz ⟨rfl, hbz⟩
    have HZ := Lib.hid (bl_trans (bl_trans HB.out (by (repeat (first | (with_reducible exact Below.refl _ _) | (with_reducible apply bl_drewN) | (with_reducible apply bl_alloc) | (with_reducible apply Below.drew))); done)) hbz)
    clear hbz
    go_wp2_with (fail)
    go_ret
    exact ⟨rfl, HZ.out⟩
  clear hh
  go_wp2_with (fail)
  refine (new_any sNorth _ (by decide)).mono ?_
  rintro e w2 ⟨he, hb2⟩
  obtain ⟨a1, l1, c1, a2, l2, c2, a3, l3, c3, rfl, e1, e3, hp⟩ := pe_get he ex_new
  obtain rfl : l1 = 0 := e1
  obtain rfl : l3 = 0 := e3
  have HX0 := Lib.hid (show KB W w2.heap.size f (.slice af f.rs.length cF) exP (.slice a1 0 c1) (.slice a2 l2 c2) (.slice a3 0 c3) (w2.alloc (.cells #[.string sNorth, .int .i64 1, .int .i64 1, .slice a1 0 c1, .slice a2 l2 c2, .slice a3 0 c3] 25)) from
    ⟨bl_alloc (bl_trans HB.out (Below.trans (b := w1) (Below.refl _ _) hb2)) _, (Below.heap_alloc _ _ _ (by have := lt_of_heap HF1.out; have := hb2.size; omega)).trans (Go.Tw.Below.at_old hb2 HF1.out), alloc1_0 _ _, hp.keep (fun k hk => ⟨by simp; omega, by omega⟩) (fun k hk => Below.heap_alloc _ _ _ hk)⟩)
  have hWb : W.heap.size < w2.heap.size := by have := lt_of_heap HF1.out; have := hb2.size; omega
  clear HB HF1 hb2 he hp
  obtain ⟨b1, hb1⟩ : ∃ b, w2.heap.size = b := ⟨_, rfl⟩
  rw [hb1] at HX0 hWb
  obtain ⟨ws, hws⟩ : ∃ ws, w2.alloc (.cells #[.string exP.nm, .int .i64 exP.out, .int .i64 exP.inn, .slice a1 0 c1, .slice a2 l2 c2, .slice a3 0 c3] 25) = ws := ⟨_, rfl⟩
  replace HX0 := HX0.out
  change KB W b1 f _ exP _ _ _ (w2.alloc (.cells #[.string exP.nm, .int .i64 exP.out, .int .i64 exP.inn, .slice a1 0 c1, .slice a2 l2 c2, .slice a3 0 c3] 25)) at HX0
  rw [hws] at HX0
  replace HX0 := Lib.hid HX0
  go_wp2_with (fail)
  (try rw [hws])
  (try rw [hb1])
  clear hws hb1
  go_loopg [41] ll.length (fun g i wr => ∃ (k : Nat) (p : Par) (u1 u2 u3 : Value), k + g = ll.length ∧ i = .int .i64 k ∧ KB W b1 f (.slice af f.rs.length cF) p u1 u2 u3 wr ∧ Kept k 0 p)
  case atStart => exact ⟨0, exP, _, _, _, by omega, rfl, HX0.out, kept_zero _⟩
  case round =>
    clear HX0
    obtain ⟨k, p, u1, u2, u3, hk, rfl, hX, hK⟩ := hrel
    obtain ⟨x1, y1, _, _, rfl, -⟩ := id hX.ok.wt
    obtain ⟨x2, y2, _, _, rfl, -⟩ := id hX.ok.ours
    obtain ⟨x3, y3, _, _, rfl, -⟩ := id hX.ok.thr
    have HX := Lib.hid hX
    have HK := Lib.hid hK
    clear hX hK
    by_cases hlt : k < ll.length
    · obtain ⟨rfl, -, -, vl, hsl, e0⟩ := HLO.out wr (.of_below HX.out.bel) k hlt
      obtain ⟨av, cv, _, _, rfl, hv1, hv2, -⟩ := id hsl
      unfold maxLen at hv2
      have HSL := Lib.hid (show SlIs tRec (· < wr.heap.size) wr (.slice av ll[k].length cv) ll[k] from hsl.keep (fun _ h => Nat.lt_of_lt_of_le h HX.out.bel.size) (SameOn.refl _ _))
      clear hsl
      obtain ⟨l, hll⟩ : ∃ l, ll[k] = l := ⟨_, rfl⟩
      rw [hll] at e0 HSL hv1
      have k0 : (0 : Int) ≤ (k : Int) := by omega
      have k1 : (k : Int) < (ll.length : Int) := by omega
      clear hll
      by_cases q3 : 20 < l.length
      · have hq3 : (20 : Int) < (l.length : Int) := by omega
        go_wp2_with (fail)
        refine (awake_any _).mono ?_
        rintro e wz ⟨rfl, hbz⟩
        have HZ := Lib.hid (bl_trans (bl_trans HX.out.bel (by (repeat (first | (with_reducible exact Below.refl _ _) | (with_reducible apply bl_drewN) | (with_reducible apply bl_alloc) | (with_reducible apply Below.drew))); done)) hbz)
        clear hbz
        go_wp2_with (fail)
        go_ret
        exact ⟨rfl, HZ.out⟩
      have hq3 : ¬ (20 : Int) < (l.length : Int) := by omega
      go_wp2_with (fail)
      refine (heavy_any l _ _ HSL.out).mono ?_
      rintro e w5 ⟨rfl, hb5⟩
      have HX5 := Lib.hid (HX.out.step hb5)
      have HSL5 := Lib.hid (HSL.out.step hb5)
      clear hb5
      cases hh : heavyC l
      case true =>
        clear hh
        go_wp2_with (fail)
        refine (awake_any _).mono ?_
        rintro e wz ⟨rfl, hbz⟩
        have HZ := Lib.hid (bl_trans (bl_trans HX5.out.bel (by (repeat (first | (with_reducible exact Below.refl _ _) | (with_reducible apply bl_drewN) | (with_reducible apply bl_alloc) | (with_reducible apply Below.drew))); done)) hbz)
        clear hbz
        go_wp2_with (fail)
        go_ret
        exact ⟨rfl, HZ.out⟩
      clear hh
      obtain ⟨c0, c1, c2, c3, c4, c5, cf⟩ := blk6' HX5.out.pb
      go_wp2_with (fail)
      refine (send_gen (fun k => k < w5.heap.size ∧ k ≠ b1) p sSouth l _ _ _ _ _ HX5.out.ok (fun _ q => q.1) (Kept.small HK.out (by omega)) (by decide) HSL5.out).mono ?_
      rintro e w6 ⟨he, hb6⟩
      obtain ⟨z1, d1, z2, d2, z3, d3, z4, d4, rfl, hq, -⟩ := ses_form he
      have HK2 := Lib.hid (HK.out.send sSouth (l := l) (by omega))
      obtain ⟨q, hqq⟩ : ∃ q, sendC p sSouth l = q := ⟨_, rfl⟩
      rw [hqq] at HK2 hq ⊢
      have HX6 := Lib.hid (HX5.out.set hb6 hWb hq)
      have m0 := Go.Tw.Below.at_old hb6 HX5.out.pb
      clear c0 c1 c2 c3 c4 c5 cf hqq he hq hb6
      obtain ⟨c0, c1, c2, c3, c4, c5, cf⟩ := blk6' m0
      clear m0
      go_wp2_with (fail)
      go_roundg (ll.length - (k + 1))
      case measure => omega
      case rel => exact ⟨k + 1, q.1, _, _, _, by omega, by go_num, HX6.out, HK2.out⟩
    · obtain rfl : k = ll.length := by omega
      have hkd : decide ((ll.length : Int) < (ll.length : Int)) = false := by simp
      have HK1 := Lib.hid (HK.out.up (m := 10) (by omega))
      clear HK hlt hk HLO
      go_wp2_with (fail)
      go_loopg [63, 11] ack.length (fun g i mo wr => ∃ (k : Nat) (most : Int) (p : Par) (u1 u2 u3 : Value), k + g = ack.length ∧ i = .int .i64 k ∧ mo = .int .i64 most ∧ KB W b1 f (.slice af f.rs.length cF) p u1 u2 u3 wr ∧ Kept 10 most p)
      case atStart => exact ⟨0, 0, p, _, _, _, by omega, rfl, rfl, HX.out, HK1.out⟩
      case round =>
        clear HX HK1
        obtain ⟨k, most, p, u1, u2, u3, hk, rfl, rfl, hX, hK⟩ := hrel
        obtain ⟨x1, y1, _, _, rfl, hx1, hx2, -⟩ := id hX.ok.wt
        obtain ⟨x2, y2, _, _, rfl, -⟩ := id hX.ok.ours
        obtain ⟨x3, y3, _, _, rfl, -⟩ := id hX.ok.thr
        have HX := Lib.hid hX
        have HK := Lib.hid hK
        have hmo := hK.mo
        have hsz := hK.sz
        have hm0 := hK.m0
        clear hX hK
        obtain ⟨c0, c1, c2, c3, c4, c5, cf⟩ := blk6' HX.out.pb
        by_cases hlt : k < ack.length
        · obtain ⟨rfl, -, e0, hn64⟩ := HAO.out wr HX.out.bel k hlt
          obtain ⟨n, hn⟩ : ∃ n, ack[k] = n := ⟨_, rfl⟩
          rw [hn] at e0 hn64
          have k0 : (0 : Int) ≤ (k : Int) := by omega
          have k1 : (k : Int) < (ack.length : Int) := by omega
          clear hn
          have hbw : b1 < wr.heap.size := lt_of_heap HX.out.pb
          go_wp2_with (fail)
          refine (ack_gen (fun k => k < wr.heap.size ∧ k ≠ b1) p n _ _ _ _ HX.out.ok (fun _ q => q.1) (Kept.small HK.out (by omega)) hn64).mono ?_
          rintro e w6 ⟨he, hb6⟩
          obtain ⟨z1, d1, z2, d2, z3, d3, rfl, hq⟩ := pes_form he
          clear he
          have hway : (ackC p n = (p, 31) ∧ (n < 0 ∨ p.out ≤ n)) ∨ ((ackC p n).2 = 0 ∧ (0 ≤ n ∧ n < p.out) ∧ (ackC p n).1.out = p.out ∧ (ackC p n).1.ours = p.ours ∧ Kept 10 (max most n) (ackC p n).1) := by
            by_cases hr : n < 0 ∨ p.out ≤ n
            · exact .inl ⟨ack_refused hr, hr⟩
            · obtain ⟨r1, r2, r3, r4⟩ := HK.out.ack (a := n) (by omega) (by omega)
              exact .inr ⟨r1, by omega, r2, r3, r4⟩
          obtain ⟨⟨q, er⟩, hqq⟩ : ∃ q, ackC p n = q := ⟨_, rfl⟩
          rw [hqq] at hq hway ⊢
          clear hqq
          have HB6 := Lib.hid hb6
          have M0 := Lib.hid (Go.Tw.Below.at_old hb6 HX.out.pb)
          have ne1 : ¬ b1 = w6.heap.size := by have := hb6.size; omega
          clear hb6 c0 c1 c2 c3 c4 c5 cf
          obtain ⟨c0, c1, c2, c3, c4, c5, cf⟩ := blk6' M0.out
          rcases hway with ⟨hw, hr⟩ | ⟨hw, ⟨hr1, hr2⟩, hqo, hqs, hkq⟩
          · simp only [Prod.mk.injEq] at hw
            obtain ⟨hw1, rfl⟩ := hw
            obtain rfl : p = q := hw1.symm
            have HKQ := HK
            simp only at hq
            have HQ := Lib.hid hq
            clear hq
            by_cases hn0 : n < 0
            · have hn1 : decide (0 ≤ n) = false := by simp; omega
              clear hr
              obtain ⟨wq, hwq⟩ : ∃ wq, w6.alloc (.cells #[.string p.nm, .int .i64 p.out, .int .i64 p.inn, .slice z1 p.wt.length d1, .slice z2 p.ours.length d2, .slice z3 p.thr.length d3] 25) = wq := ⟨_, rfl⟩
              have hbq : Below w6.heap.size w6 wq := by rw [← hwq]; exact bl_alloc (Below.refl _ _) _
              have HS1 := Lib.hid (show SlIs tRec (· < wq.heap.size) wq (.slice x2 p.ours.length y2) p.ours from
                ((HX.out.ok.ours.keep (S' := (· < wr.heap.size)) (fun _ q => q.1) (SameOn.refl _ _)).step HB6.out).step hbq)
              have HS2 := Lib.hid (show SlIs tRec (· < wq.heap.size) wq (.slice z2 p.ours.length d2) p.ours from
                (HQ.out.ours.keep (S' := (· < w6.heap.size)) (fun k q => by
                  have := HB6.out.size
                  rcases q with q | q <;> omega) (SameOn.refl _ _)).step hbq)
              have H7 := Lib.hid (show wq.heap[w6.heap.size]? = some (.cells #[.string p.nm, .int .i64 p.out, .int .i64 p.inn, .slice z1 p.wt.length d1, .slice z2 p.ours.length d2, .slice z3 p.thr.length d3] 25 (0, 0)) by rw [← hwq]; exact alloc1_0 _ _)
              have HBQ := Lib.hid hbq
              clear c0 c1 c2 c3 c4 c5 cf
              obtain ⟨c0, c1, c2, c3, c4, c5, cf⟩ := blk6' (Go.Tw.Below.at_old hbq M0.out)
              obtain ⟨f0, f1, f2, f3, f4, f5, ff⟩ := blk6' H7.out
              clear hbq
              go_wp2_with (fail)
              (try rw [hwq])
              clear hwq f0 f1 f2 f3 f4 f5 ff
              refine (sameRec_any p.ours _ _ wq HS1.out HS2.out).mono ?_
              rintro e w7 ⟨rfl, hw7⟩
              have hbq7 : Below wq.heap.size wq w7 := by
                obtain ⟨n7, rfl⟩ := hw7
                exact bl_drewN (Below.refl _ _) _
              have hb7 : Below w6.heap.size w6 w7 := bl_trans HBQ.out hbq7
              have h7 := Go.Tw.Below.at_old hbq7 H7.out
              clear hw7 hbq7 HS1 HS2 H7 HBQ
              have HX7 := Lib.hid (HX.out.set (bl_trans HB6.out hb7) hWb (q := ⟨p.nm, p.out, p.inn, p.wt, p.ours, p.thr⟩) (HQ.out.keep (fun k hk => by
                rcases hk with q | q
                · exact .inl q
                · exact .inr ⟨q.1, Nat.lt_of_lt_of_le q.2 hb7.size⟩) (fun k hk => hb7.block k (by
                have := HB6.out.size
                rcases hk with q | q
                · omega
                · exact q.2))))
              obtain ⟨f0, f1, f2, f3, f4, f5, ff⟩ := blk6' h7
              have m1 := Go.Tw.Below.at_old hb7 M0.out
              clear c0 c1 c2 c3 c4 c5 cf hb7 h7
              obtain ⟨c0, c1, c2, c3, c4, c5, cf⟩ := blk6' m1
              clear m1
              go_upto_region 21 with (fail)
              obtain ⟨wb, hwb⟩ : ∃ wb, ((((((w7.setCell ⟨b1, 0, none⟩ (.string p.nm)).setCell ⟨b1, 1, none⟩ (.int .i64 p.out)).setCell ⟨b1, 2, none⟩ (.int .i64 p.inn)).setCell ⟨b1, 3, none⟩ (.slice z1 p.wt.length d1)).setCell ⟨b1, 4, none⟩ (.slice z2 p.ours.length d2)).setCell ⟨b1, 5, none⟩ (.slice z3 p.thr.length d3)) = wb := ⟨_, rfl⟩
              rw [hwb] at HX7 ⊢
              clear hwb f0 f1 f2 f3 f4 f5 ff c0 c1 c2 c3 c4 c5 cf ne1 HX HQ M0 HB6
              obtain ⟨mm, hmm⟩ : ∃ mm, most = mm := ⟨_, rfl⟩
              rw [hmm] at HKQ ⊢
              clear hmm
              have hko : p.out = mm + 1 + (p.wt.length : Int) := HKQ.out.out
              have hkm : p.out ≤ 11 := HKQ.out.mo
              have hk0 : 0 ≤ mm := HKQ.out.m0
              have g1 : IntKind.i64.wrap (p.out - 1) = p.out - 1 := wrap_in (by omega) (by omega)
              have g2 : IntKind.i64.wrap (p.out - 1 - mm) = p.out - 1 - mm := wrap_in (by omega) (by omega)
              have g3 : ((p.wt.length : Int) != p.out - 1 - mm) = false := by simp; omega
              have g4 : IntKind.i64.wrap (mm + 1) = mm + 1 := wrap_in (by omega) (by omega)
              have g5 : mm ≤ 11 := by omega
              have g6 : p.wt.length ≤ 10 := HKQ.out.sz
              clear hko hkm
              obtain ⟨c0, c1, c2, c3, c4, c5, cf⟩ := blk6' HX7.out.pb
              go_wp2_with (fail)
              go_loopg [125] p.wt.length (fun g i w9 => ∃ j : Nat, j + g = p.wt.length ∧ i = .int .i64 j ∧ KB W b1 f (.slice af f.rs.length cF) ⟨p.nm, p.out, p.inn, p.wt, p.ours, p.thr⟩ (.slice z1 p.wt.length d1) (.slice z2 p.ours.length d2) (.slice z3 p.thr.length d3) w9)
              case atStart => exact ⟨0, by omega, rfl, HX7.out⟩
              case round =>
                clear HX7 c0 c1 c2 c3 c4 c5 cf g1 g2 g3
                obtain ⟨j, hj, rfl, hX3⟩ := hrel
                have HX3 := Lib.hid hX3
                clear hX3
                by_cases hlt3 : j < p.wt.length
                · obtain ⟨ao3, cap3, bi3, off3, hv3, -, -, ho3⟩ := fil_open HX3.out.ok.wt
                  obtain ⟨ea, -, -, hv4, hok4, s0, s1, s2, s3⟩ := ho3 _ (SameOn.refl _ _) j hlt3
                  simp only [Value.slice.injEq, true_and] at hv3
                  obtain ⟨rfl, rfl⟩ := hv3
                  obtain rfl := ea
                  obtain ⟨hva, hvc, _, _, rfl, -⟩ := hok4.rs
                  have hsq : p.wt[j].sq = mm + 1 + j := HKQ.out.sq j hlt3
                  simp only [hsq] at s2
                  have j0 : (0 : Int) ≤ (j : Int) := by omega
                  have j1 : (j : Int) < (p.wt.length : Int) := by omega
                  have g7 : IntKind.i64.wrap (mm + 1 + (j : Int)) = mm + 1 + (j : Int) := wrap_in (by omega) (by omega)
                  clear hok4 hsq ho3
                  go_wp2_with (fail)
                  go_roundg (p.wt.length - (j + 1))
                  case measure => omega
                  case rel => exact ⟨j + 1, by omega, by go_num, HX3.out.step (bl_alloc (Below.refl _ _) _)⟩
                · obtain rfl : j = p.wt.length := by omega
                  have hjd : decide ((p.wt.length : Int) < (p.wt.length : Int)) = false := by simp
                  clear hlt3 hj
                  go_wp2_with (fail)
                  go_roundg (ack.length - (k + 1))
                  case measure => omega
                  case rel => exact ⟨k + 1, mm, _, _, _, _, by omega, by go_num, rfl, HX3.out, HKQ.out⟩
            · have hn1 : decide (n < p.out) = false := by simp; omega
              clear hr
              obtain ⟨wq, hwq⟩ : ∃ wq, w6.alloc (.cells #[.string p.nm, .int .i64 p.out, .int .i64 p.inn, .slice z1 p.wt.length d1, .slice z2 p.ours.length d2, .slice z3 p.thr.length d3] 25) = wq := ⟨_, rfl⟩
              have hbq : Below w6.heap.size w6 wq := by rw [← hwq]; exact bl_alloc (Below.refl _ _) _
              have HS1 := Lib.hid (show SlIs tRec (· < wq.heap.size) wq (.slice x2 p.ours.length y2) p.ours from
                ((HX.out.ok.ours.keep (S' := (· < wr.heap.size)) (fun _ q => q.1) (SameOn.refl _ _)).step HB6.out).step hbq)
              have HS2 := Lib.hid (show SlIs tRec (· < wq.heap.size) wq (.slice z2 p.ours.length d2) p.ours from
                (HQ.out.ours.keep (S' := (· < w6.heap.size)) (fun k q => by
                  have := HB6.out.size
                  rcases q with q | q <;> omega) (SameOn.refl _ _)).step hbq)
              have H7 := Lib.hid (show wq.heap[w6.heap.size]? = some (.cells #[.string p.nm, .int .i64 p.out, .int .i64 p.inn, .slice z1 p.wt.length d1, .slice z2 p.ours.length d2, .slice z3 p.thr.length d3] 25 (0, 0)) by rw [← hwq]; exact alloc1_0 _ _)
              have HBQ := Lib.hid hbq
              clear c0 c1 c2 c3 c4 c5 cf
              obtain ⟨c0, c1, c2, c3, c4, c5, cf⟩ := blk6' (Go.Tw.Below.at_old hbq M0.out)
              obtain ⟨f0, f1, f2, f3, f4, f5, ff⟩ := blk6' H7.out
              clear hbq
              go_wp2_with (fail)
              (try rw [hwq])
              clear hwq f0 f1 f2 f3 f4 f5 ff
              refine (sameRec_any p.ours _ _ wq HS1.out HS2.out).mono ?_
              rintro e w7 ⟨rfl, hw7⟩
              have hbq7 : Below wq.heap.size wq w7 := by
                obtain ⟨n7, rfl⟩ := hw7
                exact bl_drewN (Below.refl _ _) _
              have hb7 : Below w6.heap.size w6 w7 := bl_trans HBQ.out hbq7
              have h7 := Go.Tw.Below.at_old hbq7 H7.out
              clear hw7 hbq7 HS1 HS2 H7 HBQ
              have HX7 := Lib.hid (HX.out.set (bl_trans HB6.out hb7) hWb (q := ⟨p.nm, p.out, p.inn, p.wt, p.ours, p.thr⟩) (HQ.out.keep (fun k hk => by
                rcases hk with q | q
                · exact .inl q
                · exact .inr ⟨q.1, Nat.lt_of_lt_of_le q.2 hb7.size⟩) (fun k hk => hb7.block k (by
                have := HB6.out.size
                rcases hk with q | q
                · omega
                · exact q.2))))
              obtain ⟨f0, f1, f2, f3, f4, f5, ff⟩ := blk6' h7
              have m1 := Go.Tw.Below.at_old hb7 M0.out
              clear c0 c1 c2 c3 c4 c5 cf hb7 h7
              obtain ⟨c0, c1, c2, c3, c4, c5, cf⟩ := blk6' m1
              clear m1
              go_upto_region 21 with (fail)
              obtain ⟨wb, hwb⟩ : ∃ wb, ((((((w7.setCell ⟨b1, 0, none⟩ (.string p.nm)).setCell ⟨b1, 1, none⟩ (.int .i64 p.out)).setCell ⟨b1, 2, none⟩ (.int .i64 p.inn)).setCell ⟨b1, 3, none⟩ (.slice z1 p.wt.length d1)).setCell ⟨b1, 4, none⟩ (.slice z2 p.ours.length d2)).setCell ⟨b1, 5, none⟩ (.slice z3 p.thr.length d3)) = wb := ⟨_, rfl⟩
              rw [hwb] at HX7 ⊢
              clear hwb f0 f1 f2 f3 f4 f5 ff c0 c1 c2 c3 c4 c5 cf ne1 HX HQ M0 HB6
              obtain ⟨mm, hmm⟩ : ∃ mm, most = mm := ⟨_, rfl⟩
              rw [hmm] at HKQ ⊢
              clear hmm
              have hko : p.out = mm + 1 + (p.wt.length : Int) := HKQ.out.out
              have hkm : p.out ≤ 11 := HKQ.out.mo
              have hk0 : 0 ≤ mm := HKQ.out.m0
              have g1 : IntKind.i64.wrap (p.out - 1) = p.out - 1 := wrap_in (by omega) (by omega)
              have g2 : IntKind.i64.wrap (p.out - 1 - mm) = p.out - 1 - mm := wrap_in (by omega) (by omega)
              have g3 : ((p.wt.length : Int) != p.out - 1 - mm) = false := by simp; omega
              have g4 : IntKind.i64.wrap (mm + 1) = mm + 1 := wrap_in (by omega) (by omega)
              have g5 : mm ≤ 11 := by omega
              have g6 : p.wt.length ≤ 10 := HKQ.out.sz
              clear hko hkm
              obtain ⟨c0, c1, c2, c3, c4, c5, cf⟩ := blk6' HX7.out.pb
              go_wp2_with (fail)
              go_loopg [125] p.wt.length (fun g i w9 => ∃ j : Nat, j + g = p.wt.length ∧ i = .int .i64 j ∧ KB W b1 f (.slice af f.rs.length cF) ⟨p.nm, p.out, p.inn, p.wt, p.ours, p.thr⟩ (.slice z1 p.wt.length d1) (.slice z2 p.ours.length d2) (.slice z3 p.thr.length d3) w9)
              case atStart => exact ⟨0, by omega, rfl, HX7.out⟩
              case round =>
                clear HX7 c0 c1 c2 c3 c4 c5 cf g1 g2 g3
                obtain ⟨j, hj, rfl, hX3⟩ := hrel
                have HX3 := Lib.hid hX3
                clear hX3
                by_cases hlt3 : j < p.wt.length
                · obtain ⟨ao3, cap3, bi3, off3, hv3, -, -, ho3⟩ := fil_open HX3.out.ok.wt
                  obtain ⟨ea, -, -, hv4, hok4, s0, s1, s2, s3⟩ := ho3 _ (SameOn.refl _ _) j hlt3
                  simp only [Value.slice.injEq, true_and] at hv3
                  obtain ⟨rfl, rfl⟩ := hv3
                  obtain rfl := ea
                  obtain ⟨hva, hvc, _, _, rfl, -⟩ := hok4.rs
                  have hsq : p.wt[j].sq = mm + 1 + j := HKQ.out.sq j hlt3
                  simp only [hsq] at s2
                  have j0 : (0 : Int) ≤ (j : Int) := by omega
                  have j1 : (j : Int) < (p.wt.length : Int) := by omega
                  have g7 : IntKind.i64.wrap (mm + 1 + (j : Int)) = mm + 1 + (j : Int) := wrap_in (by omega) (by omega)
                  clear hok4 hsq ho3
                  go_wp2_with (fail)
                  go_roundg (p.wt.length - (j + 1))
                  case measure => omega
                  case rel => exact ⟨j + 1, by omega, by go_num, HX3.out.step (bl_alloc (Below.refl _ _) _)⟩
                · obtain rfl : j = p.wt.length := by omega
                  have hjd : decide ((p.wt.length : Int) < (p.wt.length : Int)) = false := by simp
                  clear hlt3 hj
                  go_wp2_with (fail)
                  go_roundg (ack.length - (k + 1))
                  case measure => omega
                  case rel => exact ⟨k + 1, mm, _, _, _, _, by omega, by go_num, rfl, HX3.out, HKQ.out⟩
          · obtain ⟨nm', out', inn', wt', ours', thr'⟩ := q
            simp only at hw hqo hqs
            subst hw
            subst hqo
            subst hqs
            have HKQ := Lib.hid hkq
            have HQ := Lib.hid hq
            simp only
            clear hq hkq
            obtain ⟨wq, hwq⟩ : ∃ wq, w6.alloc (.cells #[.string nm', .int .i64 p.out, .int .i64 inn', .slice z1 wt'.length d1, .slice z2 p.ours.length d2, .slice z3 thr'.length d3] 25) = wq := ⟨_, rfl⟩
            have hbq : Below w6.heap.size w6 wq := by rw [← hwq]; exact bl_alloc (Below.refl _ _) _
            have HS1 := Lib.hid (show SlIs tRec (· < wq.heap.size) wq (.slice x2 p.ours.length y2) p.ours from
              ((HX.out.ok.ours.keep (S' := (· < wr.heap.size)) (fun _ q => q.1) (SameOn.refl _ _)).step HB6.out).step hbq)
            have HS2 := Lib.hid (show SlIs tRec (· < wq.heap.size) wq (.slice z2 p.ours.length d2) p.ours from
              (HQ.out.ours.keep (S' := (· < w6.heap.size)) (fun k q => by
                have := HB6.out.size
                rcases q with q | q <;> omega) (SameOn.refl _ _)).step hbq)
            have H7 := Lib.hid (show wq.heap[w6.heap.size]? = some (.cells #[.string nm', .int .i64 p.out, .int .i64 inn', .slice z1 wt'.length d1, .slice z2 p.ours.length d2, .slice z3 thr'.length d3] 25 (0, 0)) by rw [← hwq]; exact alloc1_0 _ _)
            have HBQ := Lib.hid hbq
            clear c0 c1 c2 c3 c4 c5 cf
            obtain ⟨c0, c1, c2, c3, c4, c5, cf⟩ := blk6' (Go.Tw.Below.at_old hbq M0.out)
            obtain ⟨f0, f1, f2, f3, f4, f5, ff⟩ := blk6' H7.out
            clear hbq
            go_wp2_with (fail)
            (try rw [hwq])
            clear hwq f0 f1 f2 f3 f4 f5 ff
            refine (sameRec_any p.ours _ _ wq HS1.out HS2.out).mono ?_
            rintro e w7 ⟨rfl, hw7⟩
            have hbq7 : Below wq.heap.size wq w7 := by
              obtain ⟨n7, rfl⟩ := hw7
              exact bl_drewN (Below.refl _ _) _
            have hb7 : Below w6.heap.size w6 w7 := bl_trans HBQ.out hbq7
            have h7 := Go.Tw.Below.at_old hbq7 H7.out
            clear hw7 hbq7 HS1 HS2 H7 HBQ
            have HX7 := Lib.hid (HX.out.set (bl_trans HB6.out hb7) hWb (q := ⟨nm', p.out, inn', wt', p.ours, thr'⟩) (HQ.out.keep (fun k hk => by
              rcases hk with q | q
              · exact .inl q
              · exact .inr ⟨q.1, Nat.lt_of_lt_of_le q.2 hb7.size⟩) (fun k hk => hb7.block k (by
              have := HB6.out.size
              rcases hk with q | q
              · omega
              · exact q.2))))
            obtain ⟨f0, f1, f2, f3, f4, f5, ff⟩ := blk6' h7
            have m1 := Go.Tw.Below.at_old hb7 M0.out
            clear c0 c1 c2 c3 c4 c5 cf hb7 h7
            obtain ⟨c0, c1, c2, c3, c4, c5, cf⟩ := blk6' m1
            clear m1
            go_upto_region 21 with (fail)
            obtain ⟨wb, hwb⟩ : ∃ wb, ((((((w7.setCell ⟨b1, 0, none⟩ (.string nm')).setCell ⟨b1, 1, none⟩ (.int .i64 p.out)).setCell ⟨b1, 2, none⟩ (.int .i64 inn')).setCell ⟨b1, 3, none⟩ (.slice z1 wt'.length d1)).setCell ⟨b1, 4, none⟩ (.slice z2 p.ours.length d2)).setCell ⟨b1, 5, none⟩ (.slice z3 thr'.length d3)) = wb := ⟨_, rfl⟩
            rw [hwb] at HX7 ⊢
            clear hwb f0 f1 f2 f3 f4 f5 ff c0 c1 c2 c3 c4 c5 cf ne1 HX HQ M0 HB6
            obtain ⟨mm, hmm⟩ : ∃ mm, max most n = mm := ⟨_, rfl⟩
            rw [hmm] at HKQ ⊢
            clear hmm
            have hko : p.out = mm + 1 + (wt'.length : Int) := HKQ.out.out
            have hkm : p.out ≤ 11 := HKQ.out.mo
            have hk0 : 0 ≤ mm := HKQ.out.m0
            have g1 : IntKind.i64.wrap (p.out - 1) = p.out - 1 := wrap_in (by omega) (by omega)
            have g2 : IntKind.i64.wrap (p.out - 1 - mm) = p.out - 1 - mm := wrap_in (by omega) (by omega)
            have g3 : ((wt'.length : Int) != p.out - 1 - mm) = false := by simp; omega
            have g4 : IntKind.i64.wrap (mm + 1) = mm + 1 := wrap_in (by omega) (by omega)
            have g5 : mm ≤ 11 := by omega
            have g6 : wt'.length ≤ 10 := HKQ.out.sz
            clear hko hkm
            obtain ⟨c0, c1, c2, c3, c4, c5, cf⟩ := blk6' HX7.out.pb
            go_wp2_with (fail)
            go_loopg [125] wt'.length (fun g i w9 => ∃ j : Nat, j + g = wt'.length ∧ i = .int .i64 j ∧ KB W b1 f (.slice af f.rs.length cF) ⟨nm', p.out, inn', wt', p.ours, thr'⟩ (.slice z1 wt'.length d1) (.slice z2 p.ours.length d2) (.slice z3 thr'.length d3) w9)
            case atStart => exact ⟨0, by omega, rfl, HX7.out⟩
            case round =>
              clear HX7 c0 c1 c2 c3 c4 c5 cf g1 g2 g3
              obtain ⟨j, hj, rfl, hX3⟩ := hrel
              have HX3 := Lib.hid hX3
              clear hX3
              by_cases hlt3 : j < wt'.length
              · obtain ⟨ao3, cap3, bi3, off3, hv3, -, -, ho3⟩ := fil_open HX3.out.ok.wt
                obtain ⟨ea, -, -, hv4, hok4, s0, s1, s2, s3⟩ := ho3 _ (SameOn.refl _ _) j hlt3
                simp only [Value.slice.injEq, true_and] at hv3
                obtain ⟨rfl, rfl⟩ := hv3
                obtain rfl := ea
                obtain ⟨hva, hvc, _, _, rfl, -⟩ := hok4.rs
                have hsq : wt'[j].sq = mm + 1 + j := HKQ.out.sq j hlt3
                simp only [hsq] at s2
                have j0 : (0 : Int) ≤ (j : Int) := by omega
                have j1 : (j : Int) < (wt'.length : Int) := by omega
                have g7 : IntKind.i64.wrap (mm + 1 + (j : Int)) = mm + 1 + (j : Int) := wrap_in (by omega) (by omega)
                clear hok4 hsq ho3
                go_wp2_with (fail)
                go_roundg (wt'.length - (j + 1))
                case measure => omega
                case rel => exact ⟨j + 1, by omega, by go_num, HX3.out.step (bl_alloc (Below.refl _ _) _)⟩
              · obtain rfl : j = wt'.length := by omega
                have hjd : decide ((wt'.length : Int) < (wt'.length : Int)) = false := by simp
                clear hlt3 hj
                go_wp2_with (fail)
                go_roundg (ack.length - (k + 1))
                case measure => omega
                case rel => exact ⟨k + 1, mm, _, _, _, _, by omega, by go_num, rfl, HX3.out, HKQ.out⟩
        · obtain rfl : k = ack.length := by omega
          have hkd : decide ((ack.length : Int) < (ack.length : Int)) = false := by simp
          have hW0 : W.heap.size ≤ wr.heap.size := HX.out.bel.size
          clear hlt hk
          obtain ⟨f0, f1, f2, f3, ff⟩ := blk4 HX.out.fb
          go_wp2_with (fail)
          refine (recv_gen (fun k => k < wr.heap.size ∧ k ≠ b1) p f _ _ _ _ _ HX.out.ok (fun _ q => q.1) (Kept.small HK.out (by omega)) (HF.out.step HX.out.bel)).mono ?_
          rintro e w6 ⟨he, hb6⟩
          obtain ⟨z1, d1, z2, d2, z3, d3, rfl, hq⟩ := pes_form he
          obtain ⟨r1, r2, r3⟩ := recv_keeps p f
          obtain ⟨⟨q, er⟩, hqq⟩ : ∃ q, recvC p f = q := ⟨_, rfl⟩
          rw [hqq] at hq r1 r2 r3 ⊢
          obtain ⟨nm', out', inn', wt', ours', thr'⟩ := q
          simp only at r1 r2 r3
          subst r1
          subst r2
          subst r3
          simp only
          have HQ := Lib.hid hq
          have HB6 := Lib.hid hb6
          have ne1 : ¬ b1 = w6.heap.size := by have := hb6.size; have := lt_of_heap HX.out.pb; omega
          have hW6 : W.heap.size ≤ w6.heap.size := by have := hb6.size; omega
          clear hqq he hq c0 c1 c2 c3 c4 c5 cf f0 f1 f2 f3 ff
          obtain ⟨wq, hwq⟩ : ∃ wq, w6.alloc (.cells #[.string nm', .int .i64 p.out, .int .i64 inn', .slice z1 p.wt.length d1, .slice z2 p.ours.length d2, .slice z3 thr'.length d3] 25) = wq := ⟨_, rfl⟩
          have hbq : Below w6.heap.size w6 wq := by rw [← hwq]; exact bl_alloc (Below.refl _ _) _
          have HX6 := Lib.hid ((HX.out.step hb6).step hbq)
          have HQB := Lib.hid (show wq.heap[w6.heap.size]? = some (.cells #[.string nm', .int .i64 p.out, .int .i64 inn', .slice z1 p.wt.length d1, .slice z2 p.ours.length d2, .slice z3 thr'.length d3] 25 (0, 0)) by rw [← hwq]; exact alloc1_0 _ _)
          have HQQ := Lib.hid (show SlIs tRec (· < wq.heap.size) wq (.slice z2 p.ours.length d2) p.ours ∧ SlIs tFil (· < wq.heap.size) wq (.slice z1 p.wt.length d1) p.wt from
            ⟨(HQ.out.ours.keep (S' := (· < w6.heap.size)) (fun k q => by have := HB6.out.size; rcases q with q | q <;> omega) (SameOn.refl _ _)).step hbq,
             (HQ.out.wt.keep (S' := (· < w6.heap.size)) (fun k q => by have := HB6.out.size; rcases q with q | q <;> omega) (SameOn.refl _ _)).step hbq⟩)
          obtain ⟨c0, c1, c2, c3, c4, c5, cf⟩ := blk6' HX6.out.pb
          obtain ⟨f0, f1, f2, f3, f4, f5, ff⟩ := blk6' HQB.out
          have hpo : (p.out != p.out) = false := by simp
          clear hbq hb6 HX HQ HB6
          go_wp2_with (fail)
          (try rw [hwq])
          clear hwq
          refine (sameRec_any p.ours _ _ wq (HX6.out.ok.ours.keep (fun _ q => q.1) (SameOn.refl _ _)) HQQ.out.1).mono ?_
          rintro e w7 ⟨rfl, hw7⟩
          have hb7 : Below wq.heap.size wq w7 := by
            obtain ⟨n7, rfl⟩ := hw7
            exact bl_drewN (Below.refl _ _) _
          have HX7 := Lib.hid (HX6.out.step hb7)
          have HQ7 := Lib.hid (Go.Tw.Below.at_old hb7 HQB.out)
          have HQF := Lib.hid (HQQ.out.2.step hb7)
          clear hw7 hb7 c0 c1 c2 c3 c4 c5 cf f0 f1 f2 f3 f4 f5 ff HX6 HQB HQQ
          obtain ⟨c0, c1, c2, c3, c4, c5, cf⟩ := blk6' HX7.out.pb
          obtain ⟨f0, f1, f2, f3, f4, f5, ff⟩ := blk6' HQ7.out
          go_wp2_with (fail)
          refine (sameFil_any p.wt _ _ w7 (HX7.out.ok.wt.keep (fun _ q => q.1) (SameOn.refl _ _)) HQF.out).mono ?_
          rintro e w8 ⟨rfl, hw8⟩
          have hb8 : Below w7.heap.size w7 w8 := by
            obtain ⟨n7, rfl⟩ := hw8
            exact bl_drewN (Below.refl _ _) _
          have HX8 := Lib.hid (HX7.out.step hb8)
          have HQ8 := Lib.hid (Go.Tw.Below.at_old hb8 HQ7.out)
          clear hw8 hb8 c0 c1 c2 c3 c4 c5 cf f0 f1 f2 f3 f4 f5 ff HX7 HQ7 HQF
          obtain ⟨c0, c1, c2, c3, c4, c5, cf⟩ := blk6' HX8.out.pb
          obtain ⟨f0, f1, f2, f3, f4, f5, ff⟩ := blk6' HQ8.out
          have g1 : IntKind.i64.wrap (p.out - 1) = p.out - 1 := wrap_in (by have := HK.out.out; have := HK.out.mo; omega) (by have := HK.out.mo; omega)
          have g2 : i64ok (p.out - 1) := by have := HK.out.out; have := HK.out.mo; unfold i64ok; omega
          have HLST := Lib.hid HK.out.last
          go_wp2_with (fail)
          refine (ack_any p (p.out - 1) _ _ _ w8 (HX8.out.ok.keep (fun _ q => q.1) (SameOn.refl _ _)) (Kept.small HK.out (by omega)) g2).mono ?_
          rintro e w9 ⟨he, hb9⟩
          obtain ⟨⟨q2, er2⟩, hqq⟩ : ∃ q, ackC p (p.out - 1) = q := ⟨_, rfl⟩
          rw [hqq] at he HLST
          obtain ⟨l1, l2⟩ := HLST.out
          simp only at l1 l2
          subst l1
          obtain ⟨vw', vo', vt', rfl, ho⟩ := he
          obtain ⟨a9, e9, _, _, rfl, -⟩ := id ho.wt
          obtain ⟨a8, e8, _, _, rfl, -⟩ := id ho.ours
          obtain ⟨a7, e7, _, _, rfl, -⟩ := id ho.thr
          simp only [l2]
          have HQ9 := Lib.hid (Go.Tw.Below.at_old hb9 HQ8.out)
          have HB9 := Lib.hid (bl_trans HX8.out.bel hb9)
          clear hqq hb9 ho c0 c1 c2 c3 c4 c5 cf f0 f1 f2 f3 f4 f5 ff HX8 HQ8 l2
          obtain ⟨f0, f1, f2, f3, f4, f5, ff⟩ := blk6' HQ9.out
          go_wp2_with (fail)
          refine (awake_any _).mono ?_
          rintro e wz ⟨rfl, hbz⟩
          have HZ := Lib.hid (bl_trans (show Below W.heap.size W _ by (repeat (first | (with_reducible exact HB9.out) | (with_reducible apply bl_drewN) | (with_reducible apply bl_alloc) | ((with_reducible refine bl_set ?_ _ ?_); rotate_left; focus (first | exact Nat.le_refl _ | (simp; done) | (simp; omega)))))) hbz)
          clear hbz
          go_wp2_with (fail)
          go_ret
          exact ⟨rfl, HZ.out⟩
set_option maxRecDepth 100000 in
theorem keeps_lift (os : Os) (started : os.Started) (H : Type) (enc : TypeId × Value → H) :
    ReturnsInHanded {} Try.checked os 8 .any (Rows.exchangeKeepsSpec.pre6 enc Try.prog Try.f8 Rows.exchangeKeepsRow.domain false) (Rows.exchangeKeepsSpec.post enc Try.prog Try.f8 false true false false) :=
  law_lift (C := Try.checked) (s := Rows.exchangeKeepsSpec) (fn := Try.f8) ⟨rfl, fun H ds h => by
    match ds, h with
    | [a, b, c], _ => exact ⟨rfl, rfl, rfl⟩⟩ rfl Try.underlying4 (by kernel_rfl) laid0 own0 started (by kernel_rfl) Try.func8
    (ChangeSpec.witness6 (enc := enc) (C := Try.checked) false ⟨#[], #[.slice none 0 0, .slice none 0 0, .agg #[.string ByteArray.empty, .string ByteArray.empty, .int .i64 0, .slice none 0 0]], []⟩ 8 (by kernel_rfl) (by kernel_rfl) (by kernel_rfl) (by kernel_rfl)) keeps_walk

/-- THE STATEMENT: ExchangeKeeps. -/
theorem keeps_holds : Rows.ExchangeKeepsSaid :=
  OpenClaim.holds_of_wide 8 Try.f8 rfl rfl rfl rfl rfl rfl rfl ⟨rfl, rfl, rfl, rfl, rfl⟩ rfl rfl rfl rfl rfl (by kernel_rfl) Try.func8 (by kernel_rfl)
    (of_decide_eq_true (by kernel_rfl)) (by unfold Func.isWrapper; rw [if_neg (of_decide_eq_false (by kernel_rfl))]; exact ⟨rfl, rfl⟩)
    (fun os started H enc _ => keeps_lift os started H enc)
end Go.Proofs.Ythdbojbblkfhaaa
