/-
  Layer 43 (exchange): the law ExchangeOnce.
-/
import Derived.Test.YthdbojbblkfhaaaExcOnce2
namespace Go.Proofs.Ythdbojbblkfhaaa
open Go.RowKit Go.Tw Go.Tw.Exc Go.ChangeShapes Go.WideShapes
theorem opensU8s {e : TypeId} : Opens Try.prog 55 (tU8.list e) := opens_slice Try.underlying55 (by kernel_rfl) (show 0 < 1 by decide) (opens_u8 Try.underlying5)
theorem bytes_open {B : Nat} {w : World} {v : Value} {l : List Int} (h : SlIs tU8 (· < B) w v l) :
    ∃ ao cap b off, v = .slice ao l.length cap ∧ l.length ≤ cap ∧ cap ≤ maxLen ∧ ∀ w', Below B w w' → ∀ k (_ : k < l.length), ao = some ⟨b, off, none⟩ ∧ b < B ∧
      w'.cell? ⟨b, off + k, none⟩ = some (.int .u8 l[k]) ∧ 0 ≤ l[k] ∧ l[k] ≤ 255 := by
  obtain ⟨ao, cap, b, off, hv, h1, h2, h3⟩ := h.openB
  refine ⟨ao, cap, b, off, hv, h1, h2, fun w' hw k hk => ?_⟩
  obtain ⟨g1, g2, cs, g3, rfl, g5⟩ := h3 w' hw k hk
  have := g3 0 (by decide)
  simp [tU8] at this
  exact ⟨g1, g2, this, g5⟩
theorem set10 {w : World} {b c : Nat} {t t2 : TypeId} {a0 a1 a2 a3 a4 a5 x0 x1 x2 x3 x4 x5 c0 c1 c2 c3 y0 y1 y2 y3 : Value} (hbc : b ≠ c) (hb : w.heap[b]? = some (.cells #[a0, a1, a2, a3, a4, a5] t (0, 0))) (hc : w.heap[c]? = some (.cells #[c0, c1, c2, c3] t2 (0, 0))) {wz : World}
    (hz : ((((((((((w.setCell ⟨b, 0, none⟩ x0).setCell ⟨b, 1, none⟩ x1).setCell ⟨b, 2, none⟩ x2).setCell ⟨b, 3, none⟩ x3).setCell ⟨b, 4, none⟩ x4).setCell ⟨b, 5, none⟩ x5).setCell ⟨c, 0, none⟩ y0).setCell ⟨c, 1, none⟩ y1).setCell ⟨c, 2, none⟩ y2).setCell ⟨c, 3, none⟩ y3) = wz) :
    wz.heap[b]? = some (.cells #[x0, x1, x2, x3, x4, x5] t (0, 0)) ∧ wz.heap[c]? = some (.cells #[y0, y1, y2, y3] t2 (0, 0)) ∧ (∀ k, k ≠ b → k ≠ c → wz.heap[k]? = w.heap[k]?) ∧ wz.heap.size = w.heap.size ∧ ∀ {W : World}, Below W.heap.size W w → W.heap.size ≤ b → W.heap.size ≤ c → Below W.heap.size W wz := by
  subst hz
  have hn : ∀ (u : World) k, k ≠ c → ((((u.setCell ⟨c, 0, none⟩ y0).setCell ⟨c, 1, none⟩ y1).setCell ⟨c, 2, none⟩ y2).setCell ⟨c, 3, none⟩ y3).heap[k]? = u.heap[k]? := fun u k h =>
    (Below.heap_setCell _ _ _ _ h).trans ((Below.heap_setCell _ _ _ _ h).trans ((Below.heap_setCell _ _ _ _ h).trans (Below.heap_setCell _ _ _ _ h)))
  refine ⟨(hn _ _ hbc).trans (set6_same hb), heap_setCell_same _ _ 3 _ _ _ (heap_setCell_same _ _ 2 _ _ _ (heap_setCell_same _ _ 1 _ _ _ (heap_setCell_same _ _ 0 _ _ _ ((set6_ne (Ne.symm hbc)).trans hc)))), fun k h1 h2 => (hn _ _ h2).trans (set6_ne h1), by simp, fun h h1 h2 => ?_⟩
  exact bl_set (bl_set (bl_set (bl_set (bl_set (bl_set (bl_set (bl_set (bl_set (bl_set h _ h1) _ h1) _ h1) _ h1) _ h1) _ h1) _ h2) _ h2) _ h2) _ h2
def exS : Par := ⟨sSouth, 1, 1, [], [], []⟩
theorem ex_newS : newC sSouth = (exS, 0) := by unfold newC; rw [if_neg (by rw [name_south]; decide)]; rfl
theorem sl_empty {α : Type} {T : Ty α} {S S' : Nat → Prop} {w w' : World} {v : Value} (h : SlIs T S w v []) : SlIs T S' w' v [] := by
  obtain ⟨ao, cap, b, off, hv, h1, h2, h3, h4⟩ := h
  exact ⟨ao, cap, b, off, hv, h1, h2, h3, fun k hk => absurd hk (Nat.not_lt_zero _)⟩
theorem par_empty {S S' : Nat → Prop} {w w' : World} {nm : ByteArray} {o i : Int} {u1 u2 u3 : Value} (h : ParOk S w ⟨nm, o, i, [], [], []⟩ u1 u2 u3) : ParOk S' w' ⟨nm, o, i, [], [], []⟩ u1 u2 u3 := ⟨h.nm, h.out, h.inn, sl_empty h.wt, sl_empty h.ours, sl_empty h.thr⟩
section
variable {W w w' wz w7 : World} {b5 b7 b9 : Nat} {a b c : Par} {F F' : List Fil} {a1 a2 a3 b1 b2 b3 u1 u2 u3 vf v' : Value}
/-- one more file -/
theorem OB.push (h : OB W b5 b7 b9 a b F a1 a2 a3 b1 b2 b3 vf wz) {o : Obj} (hg : (wz.alloc o).grownBy w7 vf.ownBlock) (ho : OwnS tFil 30 (b9 + 1) (fun k => SO b5 b7 b9 vf wz k ∨ (SO b5 b7 b9 vf wz k ∨ k = wz.heap.size)) w7 v' F')
    (hor : v'.ownBlock = vf.ownBlock ∨ v'.ownBlock = some (wz.heap.size + 1)) : OB W b5 b7 b9 a b F' a1 a2 a3 b1 b2 b3 v' (w7.setCell ⟨b9, 0, none⟩ v') := by
  have h5 := lt_of_heap h.pa
  have h7 := lt_of_heap h.pb
  have h9 := lt_of_heap h.pf
  have o5 := h.o5
  have o7 := h.o7
  have o9 := h.o9
  have hz := hg.size
  simp only [World.size_alloc] at hz
  have hal := fun k q => (h.own.own_lt k q)
  have hvl := fun k q => (ho.own_lt k q)
  have hk : ∀ k, k < wz.heap.size → some k ≠ vf.ownBlock → w7.heap[k]? = wz.heap[k]? := fun k q1 q2 => (hg.block k (by simp; omega) q2).trans (Below.heap_alloc _ _ _ q1)
  have hs : ∀ k, k ≠ b9 → (w7.setCell ⟨b9, 0, none⟩ v').heap[k]? = w7.heap[k]? := fun k q => Below.heap_setCell _ _ _ _ q
  have hlow : ∀ k, k ≤ b9 → some k ≠ vf.ownBlock := fun k q e => by have := (hal k e.symm).1; omega
  have hup : ∀ k, SO b5 b7 b9 vf wz k → SO b5 b7 b9 v' (w7.setCell ⟨b9, 0, none⟩ v') k := fun k q => ⟨by simp; have := q.1; omega, q.2.1, q.2.2.1, q.2.2.2.1, fun e => by
    rcases hor with r | r
    · exact q.2.2.2.2 (e.trans r)
    · rw [r] at e; injection e with e; have := q.1; omega⟩
  have hsame : SameOn (SO b5 b7 b9 vf wz) wz (w7.setCell ⟨b9, 0, none⟩ v') := fun k q => (hs k q.2.2.2.1).trans (hk k q.1 q.2.2.2.2)
  refine ⟨bl_set (h.bel.trans ((bl_alloc (Below.refl wz.heap.size wz) o |>.mono h.bel.size).trans (Below.of_grown hg (by simp; have := h.bel.size; omega) (fun k e => by have := (hal k e).1; omega)))) _ (by show W.heap.size ≤ b9; omega), o5, o7, o9,
    (hs _ (by omega)).trans ((hk _ h5 (hlow _ (by omega))).trans h.pa), (hs _ (by omega)).trans ((hk _ h7 (hlow _ (by omega))).trans h.pb), heap_setCell_same _ _ 0 _ _ _ ((hk _ h9 (hlow _ (Nat.le_refl _))).trans h.pf), h.oka.keep hup hsame, h.okb.keep hup hsame, ?_⟩
  refine (ho.heap (fun k q => hs k (fun e => by have := (hvl k q).1; omega)) (fun k q => hs k ?_)).mono (fun k q => ?_)
  · rcases q with q | q | q
    · exact q.2.2.2.1
    · exact q.2.2.2.1
    · omega
  · rcases q with q | q | q
    · exact hup k q
    · exact hup k q
    · subst q
      refine ⟨by simp; omega, by omega, by omega, by omega, fun e => ?_⟩
      rcases hor with r | r
      · have := (hal _ (r.symm.trans e.symm)).2; omega
      · rw [r] at e; injection e with e; omega
end
set_option maxRecDepth 100000 in
set_option maxHeartbeats 8000000 in
theorem once_walk : LawWalk Try.prog 7 Try.f7 := by
  intro H enc W base args ds ps hval hA hsz
  rw [Try.params7] at hA hval
  obtain ⟨v0, v1, d0, d1, p0, p1, rfl, rfl, rfl, h0, h1⟩ := trodAll_two hA
  obtain ⟨ll, hl⟩ := arg_slice Try.underlying54 (opensRecss (e := 51) (e2 := 23)) (hval 0 _ _ rfl rfl) h0
  obtain ⟨ord, ha⟩ := arg_slice Try.underlying55 (opensU8s (e := 5)) (hval 1 _ _ rfl rfl) h1
  clear hA hval h0 h1 hsz
  obtain ⟨al, cl, bl, ol, rfl, hl1, hl2, hlo⟩ := lists_open hl
  obtain ⟨aa, ca, ba, oa, rfl, ha1, ha2, hao⟩ := bytes_open ha
  unfold maxLen at hl2 ha2
  have HLO := Lib.hid hlo
  have HAO := Lib.hid hao
  clear hl ha hlo hao
  go_enter Try.func7, Try.ntmps7
  by_cases q1 : 10 < ll.length
  · have hq : (10 : Int) < (ll.length : Int) := by omega
    go_wp2_with (fail)
    refine (awake_any _).mono ?_
    rintro e wz ⟨rfl, hbz⟩
    have HZ := Lib.hid hbz
    clear hbz
    go_wp2_with (fail)
    go_ret
    exact ⟨rfl, HZ.out⟩
  have hq1 : ¬ (10 : Int) < (ll.length : Int) := by omega
  by_cases q2 : 60 < ord.length
  · have hq : (60 : Int) < (ord.length : Int) := by omega
    go_wp2_with (fail)
    refine (awake_any _).mono ?_
    rintro e wz ⟨rfl, hbz⟩
    have HZ := Lib.hid hbz
    clear hbz
    go_wp2_with (fail)
    go_ret
    exact ⟨rfl, HZ.out⟩
  have hq2 : ¬ (60 : Int) < (ord.length : Int) := by omega
  clear q2
  go_wp2_with (fail)
  refine (new_any sNorth _ (by decide)).mono ?_
  rintro e w2 ⟨he, hb2⟩
  obtain ⟨a1, l1, c1, a2, l2, c2, a3, l3, c3, rfl, e1, e3, hp⟩ := pe_get he ex_new
  obtain rfl : l1 = 0 := e1
  obtain rfl : l3 = 0 := e3
  obtain ⟨_, _, _, _, e2, -⟩ := id hp.ours
  simp only [Value.slice.injEq] at e2
  obtain rfl : l2 = 0 := e2.2.1
  have HB2 := Lib.hid (show Below W.heap.size W w2 from hb2)
  have HP2 := Lib.hid hp
  clear he hb2 hp e2
  go_wp2_with (fail)
  refine (new_any sSouth _ (by decide)).mono ?_
  rintro e w3 ⟨he, hb3⟩
  obtain ⟨d1, l1, f1, d2, l2, f2, d3, l3, f3, rfl, e1, e3, hp⟩ := pe_get he ex_newS
  obtain rfl : l1 = 0 := e1
  obtain rfl : l3 = 0 := e3
  obtain ⟨_, _, _, _, e2, -⟩ := id hp.ours
  simp only [Value.slice.injEq] at e2
  obtain rfl : l2 = 0 := e2.2.1
  have m5 := Go.Tw.Below.at_old hb3 (alloc1_0 w2 _)
  have hlt5 := lt_of_heap m5
  have HX0 := Lib.hid (show OB W w2.heap.size w3.heap.size (w3.heap.size + 1) exP exS [] (.slice a1 0 c1) (.slice a2 0 c2) (.slice a3 0 c3) (.slice d1 0 f1) (.slice d2 0 f2) (.slice d3 0 f3) (.slice none 0 0)
      ((w3.alloc (.cells #[.string exS.nm, .int .i64 exS.out, .int .i64 exS.inn, .slice d1 0 f1, .slice d2 0 f2, .slice d3 0 f3] 25)).alloc (.cells #[.slice none 0 0] 22)) from
    ⟨bl_alloc (bl_alloc (bl_trans (bl_alloc HB2.out _) hb3) _) _, HB2.out.size, hlt5, Nat.lt_succ_self _, (Below.heap_alloc _ _ _ (by simp; omega)).trans ((Below.heap_alloc _ _ _ hlt5).trans m5), heap_alloc2_old w3 _ _, heap_alloc2_new w3 _ _, par_empty HP2.out, par_empty hp, OwnS.nil⟩)
  clear he hb3 hp e2 m5 HB2 HP2
  go_upto_region 8 with (fail)
  obtain ⟨ws, hws⟩ : ∃ ws, (w3.alloc (.cells #[.string exS.nm, .int .i64 exS.out, .int .i64 exS.inn, .slice d1 0 f1, .slice d2 0 f2, .slice d3 0 f3] 25)).alloc (.cells #[.slice none 0 0] 22) = ws := ⟨_, rfl⟩
  rw [hws] at HX0 ⊢
  obtain ⟨b9, hb9⟩ : ∃ b, w3.heap.size + 1 = b := ⟨_, rfl⟩
  rw [hb9] at HX0 ⊢
  obtain ⟨b7, hb7⟩ : ∃ b, w3.heap.size = b := ⟨_, rfl⟩
  rw [hb7] at HX0 ⊢
  obtain ⟨b5, hb5⟩ : ∃ b, w2.heap.size = b := ⟨_, rfl⟩
  rw [hb5] at HX0 ⊢
  clear hws hb9 hb7 hb5 hlt5
  go_wp2_with (fail)
  go_loopg [43] ll.length (fun g i wr => ∃ (k : Nat) (a : Par) (F : List Fil) (u1 u2 u3 vf : Value), k + g = ll.length ∧ i = .int .i64 k ∧ OB W b5 b7 b9 a exS F u1 u2 u3 (.slice d1 0 f1) (.slice d2 0 f2) (.slice d3 0 f3) vf wr ∧ Sent k a F)
  case atStart => exact ⟨0, exP, [], _, _, _, _, by omega, rfl, HX0.out, sent_zero⟩
  case round =>
    clear HX0
    obtain ⟨k, a, F, u1, u2, u3, vf, hk, rfl, hX, hS⟩ := hrel
    obtain ⟨x1, y1, _, _, rfl, -⟩ := id hX.oka.wt
    obtain ⟨x2, y2, _, _, rfl, -⟩ := id hX.oka.ours
    obtain ⟨x3, y3, _, _, rfl, -⟩ := id hX.oka.thr
    obtain ⟨fo, fc, rfl, hf1, hf2⟩ := hX.own.form
    have HX := Lib.hid hX
    have HS := Lib.hid hS
    clear hX hS
    by_cases hlt : k < ll.length
    · obtain ⟨rfl, -, -, vl, hsl, e0⟩ := HLO.out wr (.of_below HX.out.bel) k hlt
      obtain ⟨av, cv, _, _, rfl, hv1, hv2, -⟩ := id hsl
      unfold maxLen at hv2
      have HSL := Lib.hid (show SlIs tRec (· < wr.heap.size) wr (.slice av ll[k].length cv) ll[k] from hsl.keep (fun _ h => Nat.lt_of_lt_of_le h HX.out.bel.size) (SameOn.refl _ _))
      clear hsl
      obtain ⟨l, hll⟩ : ∃ l, ll[k] = l := ⟨_, rfl⟩
      rw [hll] at e0 HSL hv1
      have k0 : (0 : Int) ≤ (k : Int) := by omega
      have k1 : (k : Int) < (ll.length : Int) := by omega
      clear hll
      by_cases q3 : 20 < l.length
      · have hq3 : (20 : Int) < (l.length : Int) := by omega
        go_wp2_with (fail)
        refine (awake_any _).mono ?_
        rintro e wz ⟨rfl, hbz⟩
        have HZ := Lib.hid (bl_trans HX.out.bel hbz)
        clear hbz
        go_wp2_with (fail)
        go_ret
        exact ⟨rfl, HZ.out⟩
      have hq3 : ¬ (20 : Int) < (l.length : Int) := by omega
      go_wp2_with (fail)
      refine (heavy_any l _ _ HSL.out).mono ?_
      rintro e w5 ⟨rfl, hb5⟩
      have HX5 := Lib.hid (HX.out.step hb5)
      have HSL5 := Lib.hid (HSL.out.step hb5)
      clear hb5 HX HSL
      cases hh : heavyC l
      case true =>
        clear hh
        go_wp2_with (fail)
        refine (awake_any _).mono ?_
        rintro e wz ⟨rfl, hbz⟩
        have HZ := Lib.hid (bl_trans HX5.out.bel hbz)
        clear hbz
        go_wp2_with (fail)
        go_ret
        exact ⟨rfl, HZ.out⟩
      clear hh
      have hl5 := lt_of_heap HX5.out.pa
      have ne5 : ¬ b5 = w5.heap.size := by omega
      obtain ⟨c0, c1, c2, c3, c4, c5, cf⟩ := blk6' HX5.out.pa
      obtain ⟨sz1, sz2, sz3, sz4⟩ := HS.out.sizes (by omega)
      have HSM := Lib.hid (show SmallP a from ⟨by omega, fun f hf => by have := sz2 f hf; omega, by omega, by omega⟩)
      have hb5x : Below w5.heap.size w5 (w5.alloc (.cells #[.string ByteArray.empty, .string ByteArray.empty, .int .i64 0, .slice none 0 0] 30)) := bl_alloc (Below.refl _ _) _
      have HSND := Lib.hid (send_gen (SO b5 b7 b9 (.slice fo F.length fc) w5) a sSouth l _ _ _ _ _ (HX5.out.oka.keep (fun _ h => h) (fun k q => hb5x.block k q.1)) (fun k q => Nat.lt_of_lt_of_le q.1 hb5x.size) HSM.out (by decide) (HSL5.out.step hb5x))
      clear sz1 sz2 sz3 sz4 hb5x
      go_wp2_with (fail)
      refine HSND.out.mono ?_
      rintro e w6 ⟨he, hb6⟩
      obtain ⟨z1, e1, z2, e2, z3, e3, z4, e4, rfl, hq, hfil⟩ := ses_form he
      have hk2 := HS.out.send (l := l) (by omega)
      obtain ⟨⟨q, x, er⟩, hqq⟩ : ∃ q, sendC a sSouth l = q := ⟨_, rfl⟩
      rw [hqq] at hk2 hq hfil ⊢
      simp only at hk2 hq hfil ⊢
      have m5 := Go.Tw.Below.at_old hb6 ((Below.heap_alloc w5 (.cells #[.string ByteArray.empty, .string ByteArray.empty, .int .i64 0, .slice none 0 0] 30) b5 hl5).trans HX5.out.pa)
      have m12 := Go.Tw.Below.at_old hb6 (alloc1_0 w5 (.cells #[.string ByteArray.empty, .string ByteArray.empty, .int .i64 0, .slice none 0 0] 30))
      have hz6 : w5.heap.size + 1 ≤ w6.heap.size := by have := hb6.size; simpa using this
      clear c0 c1 c2 c3 c4 c5 cf hqq he HSND HSM
      obtain ⟨c0, c1, c2, c3, c4, c5, cf⟩ := blk6' m5
      obtain ⟨g0, g1, g2, g3, gf⟩ := blk4 m12
      go_upto_region 16 with (fail)
      obtain ⟨wz, hwz⟩ : ∃ wz, ((((((((((w6.setCell ⟨b5, 0, none⟩ (.string q.nm)).setCell ⟨b5, 1, none⟩ (.int .i64 q.out)).setCell ⟨b5, 2, none⟩ (.int .i64 q.inn)).setCell ⟨b5, 3, none⟩ (.slice z1 q.wt.length e1)).setCell ⟨b5, 4, none⟩ (.slice z2 q.ours.length e2)).setCell ⟨b5, 5, none⟩ (.slice z3 q.thr.length e3)).setCell ⟨w5.heap.size, 0, none⟩ (.string x.fr)).setCell ⟨w5.heap.size, 1, none⟩ (.string x.to)).setCell ⟨w5.heap.size, 2, none⟩ (.int .i64 x.sq)).setCell ⟨w5.heap.size, 3, none⟩ (.slice z4 x.rs.length e4)) = wz := ⟨_, rfl⟩
      obtain ⟨t1, t2, t3, t4, t5⟩ := set10 ne5 m5 m12 hwz
      rw [hwz]
      have hHB := HX5.out.bel
      have hWb5 := HX5.out.o5
      have h57 := HX5.out.o7
      have h79 := HX5.out.o9
      have hl9 := lt_of_heap HX5.out.pf
      have hown := fun k q => (HX5.out.own.own_lt k q).2
      have hnew : ∀ k, w5.heap.size + 1 ≤ k → k < w6.heap.size → SO b5 b7 b9 (.slice fo F.length fc) wz k := fun k h1 h2 => ⟨by omega, by omega, by omega, by omega, fun e => by have := hown k e.symm; omega⟩
      have HXz := Lib.hid (HX5.out.reA (w' := wz) (c := q) (by omega) (t5 (bl_trans (bl_alloc hHB _) hb6) hWb5 hHB.size) (fun k h1 h2 => (t3 k h2 (by omega)).trans ((hb6.block k (by simp; omega)).trans (Below.heap_alloc _ _ _ h1))) t1 (hq.keep (fun k hk => by
        rcases hk with h | h
        · exact SO.up (by omega) h
        · exact hnew k (by simpa using h.1) h.2) (fun k hk => by
        rcases hk with h | h
        · exact t3 k h.2.1 (by have := h.1; omega)
        · have h1 : w5.heap.size + 1 ≤ k := by simpa using h.1
          exact t3 k (by omega) (by omega))))
      have HFX := Lib.hid (show FilOk (SO b5 b7 b9 (.slice fo F.length fc) wz) wz x (.slice z4 x.rs.length e4) from hfil.keep (fun k hk => hnew k (by simpa using hk.1) hk.2) (fun k hk => by
        have h1 : w5.heap.size + 1 ≤ k := by simpa using hk.1
        exact t3 k (by omega) (by omega)))
      have HXX := Lib.hid t2
      have hz9 : b9 < wz.heap.size := by omega
      clear hwz t1 t2 t3 t4 t5 hHB hWb5 h57 h79 hl9 hown hnew hq hfil hb6 m5 m12 c0 c1 c2 c3 c4 c5 cf g0 g1 g2 g3 gf HX5 hz6 hl5 ne5 HSL5
      rcases hk2 with ⟨her, hs2⟩ | ⟨her, hs2⟩
      · have her2 : (er == 0) = false := by simpa using her
        have HS2 := Lib.hid hs2
        clear her hs2
        go_wp2_with (fail)
        go_roundg (ll.length - (k + 1))
        case measure => omega
        case rel => exact ⟨k + 1, q, F, _, _, _, _, by omega, by go_num, HXz.out, HS2.out⟩
      · subst her
        have HS2 := Lib.hid hs2
        have hfl := HS.out.len
        obtain ⟨p0, pf⟩ := blk1 HXz.out.pf
        obtain ⟨g0, g1, g2, g3, gf⟩ := blk4 HXX.out
        clear hs2
        go_wp2_with (
          at_builtin
          refine wpList_append_oneS (.tmp 64) (.tmp 66) rfl 22 rfl slFil rfl HXz.out.own (fun k q => ⟨q.1, q.2.2.2.2⟩) rfl (tFil_mk HFX.out) (fun k q => ⟨q.1, q.2.2.2.2⟩) (by omega) (by unfold maxLen; omega) hz9 ?_
          intro v' w7 ho hg hor
          have HPU := Lib.hid (HXz.out.push hg ho hor)
          obtain ⟨a', c', q3, -⟩ := ho.form
          rw [List.length_append] at q3
          change v' = .slice a' (F.length + 1) c' at q3
          subst q3
          obtain ⟨s0, sf⟩ := blk1 ((hg.block b9 (by simp; omega) (fun e => by have := (HXz.out.own.own_lt _ e.symm).1; omega)).trans ((Below.heap_alloc _ _ _ hz9).trans HXz.out.pf))
          clear ho hg hor)
        go_roundg (ll.length - (k + 1))
        case measure => omega
        case rel => exact ⟨k + 1, q, F ++ [x], _, _, _, _, by omega, by go_num, HPU.out, HS2.out⟩
    · obtain rfl : k = ll.length := by omega
      have hkd : decide ((ll.length : Int) < (ll.length : Int)) = false := by simp
      have hfl := HS.out.len
      have HWT := Lib.hid HS.out.wt
      have HOT := Lib.hid HS.out.out
      obtain ⟨c0, c1, c2, c3, c4, c5, cf⟩ := blk6' HX.out.pa
      obtain ⟨p0, pf⟩ := blk1 HX.out.pf
      rw [HWT.out] at c3
      rw [HOT.out] at c1
      have g1 : IntKind.i64.wrap ((F.length : Int) + 1) = (F.length : Int) + 1 := wrap_in (by omega) (by omega)
      have g2 : (((F.length : Int) + 1) != ((F.length : Int) + 1)) = false := by simp
      have g3 : ((F.length : Int) != (F.length : Int)) = false := by simp
      have hF10 : F.length ≤ 10 := by omega
      have HST := Lib.hid (show OnceSt W b5 b7 b9 a F (.slice x1 a.wt.length y1) (.slice x2 a.ours.length y2) (.slice x3 a.thr.length y3) (.slice fo F.length fc) 0 wr from ⟨exS, _, _, _, HX.out, got_zero F sSouth⟩)
      clear hlt hk HLO hfl HX
      go_wp2_with (fail)
      clear c0 c1 c2 c3 c4 c5 cf p0 pf g1 g2 g3
      go_loopg [86] ord.length (fun g i wr => ∃ (j kk : Nat), j + g = ord.length ∧ i = .int .i64 j ∧ OnceSt W b5 b7 b9 a F (.slice x1 a.wt.length y1) (.slice x2 a.ours.length y2) (.slice x3 a.thr.length y3) (.slice fo F.length fc) kk wr)
      case atStart => exact ⟨0, 0, by omega, rfl, HST.out⟩
      case round =>
        clear HST
        obtain ⟨j, kk, hj, rfl, hT⟩ := hrel
        have HT := Lib.hid hT
        clear hT
        have HPF := HT.out
        obtain ⟨bb, v1, v2, v3, hO, hG⟩ := HPF
        obtain ⟨p0, pf⟩ := blk1 hO.pf
        have HBL := Lib.hid hO.bel
        clear hO hG bb v1 v2 v3
        by_cases hlt : j < ord.length
        · obtain ⟨rfl, -, e0, n0, n1⟩ := HAO.out wr HBL.out j hlt
          obtain ⟨n, hn⟩ : ∃ n, ord[j] = n := ⟨_, rfl⟩
          rw [hn] at e0 n0 n1
          have j0 : (0 : Int) ≤ (j : Int) := by omega
          have j1 : (j : Int) < (ord.length : Int) := by omega
          clear hn
          by_cases hz : F.length = 0
          · obtain rfl := List.eq_nil_of_length_eq_zero hz
            clear hz
            go_wp2_with (fail)
            go_roundg (ord.length - (j + 1))
            case measure => omega
            case rel => exact ⟨j + 1, kk, by omega, by go_num, HT.out⟩
          · have hz0 : (0 : Int) < (F.length : Int) := by omega
            have hz1 : ¬ (F.length : Int) = 0 := by omega
            go_wp2_with (fail)
            obtain ⟨i, hi⟩ : ∃ i : Nat, n % (F.length : Int) = i := ⟨(n % (F.length : Int)).toNat, by rw [Int.toNat_of_nonneg (Int.emod_nonneg _ (by omega))]⟩
            have hil : i < F.length := by have := Int.emod_lt_of_pos n hz0; omega
            rw [hi]
            clear hi
            refine (recvO_any W b5 b7 b9 a F _ _ _ _ kk i wr HT.out HS.out.fs hF10 hil).mono ?_
            rintro e w4 ⟨rfl, kk', hT', -, -⟩
            have HT4 := Lib.hid hT'
            clear hT'
            go_wp2_with (fail)
            go_roundg (ord.length - (j + 1))
            case measure => omega
            case rel => exact ⟨j + 1, kk', by omega, by go_num, HT4.out⟩
        · obtain rfl : j = ord.length := by omega
          have hjd : decide ((ord.length : Int) < (ord.length : Int)) = false := by simp
          clear hlt hj HAO
          go_wp2_with (fail)
          clear p0 pf
          go_loopg [106] F.length (fun g i wr => ∃ (j kk : Nat), j + g = F.length ∧ i = .int .i64 j ∧ j ≤ kk ∧ OnceSt W b5 b7 b9 a F (.slice x1 a.wt.length y1) (.slice x2 a.ours.length y2) (.slice x3 a.thr.length y3) (.slice fo F.length fc) kk wr)
          case atStart => exact ⟨0, kk, by omega, rfl, Nat.zero_le _, HT.out⟩
          case round =>
            clear HT HBL
            obtain ⟨j, kk, hj, rfl, hjk, hT⟩ := hrel
            have HT := Lib.hid hT
            clear hT
            by_cases hlt : j < F.length
            · have j0 : (0 : Int) ≤ (j : Int) := by omega
              have j1 : (j : Int) < (F.length : Int) := by omega
              go_wp2_with (fail)
              refine (recvO_any W b5 b7 b9 a F _ _ _ _ kk j wr HT.out HS.out.fs hF10 hlt).mono ?_
              rintro e w4 ⟨rfl, kk', hT', hk1, hk2⟩
              have HT4 := Lib.hid hT'
              have hk3 := hk2 hjk
              clear hT' hk2
              go_wp2_with (fail)
              go_roundg (F.length - (j + 1))
              case measure => omega
              case rel => exact ⟨j + 1, kk', by omega, by go_num, hk3, HT4.out⟩
            · obtain rfl : j = F.length := by omega
              have hjd2 : decide ((F.length : Int) < (F.length : Int)) = false := by simp
              have HPF := HT.out
              obtain ⟨b, v1, v2, v3, hO, hG⟩ := HPF
              obtain rfl : kk = F.length := Nat.le_antisymm hG.le hjk
              obtain ⟨m1, n1, _, _, rfl, -⟩ := id hO.okb.wt
              obtain ⟨m2, n2, _, _, rfl, -⟩ := id hO.okb.ours
              obtain ⟨m3, n3, _, _, rfl, -⟩ := id hO.okb.thr
              obtain ⟨c0, c1, c2, c3, c4, c5, cf⟩ := blk6' hO.pa
              obtain ⟨s0, s1, s2, s3, s4, s5, sf⟩ := blk6' hO.pb
              rw [HOT.out] at c1
              have HIN := Lib.hid hG.inn
              rw [HIN.out] at s2
              have hto := hO.oka.ours
              have htt := hO.okb.thr
              have HTH := Lib.hid (show b.thr = recsOf F by rw [hG.thr, List.take_length])
              have HOU := Lib.hid HS.out.ours
              rw [HOU.out] at hto c4
              rw [HTH.out] at htt s5
              have HTO := Lib.hid (show SlIs tRec (· < wr.heap.size) wr (.slice x2 (recsOf F).length y2) (recsOf F) from hto.keep (fun k q => q.1) (SameOn.refl _ _))
              have HTT := Lib.hid (show SlIs tRec (· < wr.heap.size) wr (.slice m3 (recsOf F).length n3) (recsOf F) from htt.keep (fun k q => q.1) (SameOn.refl _ _))
              have HBL := Lib.hid hO.bel
              have g2 : (((F.length : Int) + 1) == ((F.length : Int) + 1)) = true := by simp
              clear hlt hj hjk hto htt hO hG HT
              go_wp2_with (fail)
              refine (sameRec_any (recsOf F) _ _ wr HTO.out HTT.out).mono ?_
              rintro e w7 ⟨rfl, hw7⟩
              have HB7 := Lib.hid (show Below W.heap.size W w7 from by
                obtain ⟨n7, rfl⟩ := hw7
                exact bl_drewN HBL.out _)
              clear hw7
              go_wp2_with (fail)
              refine (awake_any _).mono ?_
              rintro e wz ⟨rfl, hbz⟩
              have HZ := Lib.hid (bl_trans HB7.out hbz)
              clear hbz
              go_wp2_with (fail)
              go_ret
              exact ⟨rfl, HZ.out⟩
set_option maxRecDepth 100000 in
theorem once_lift (os : Os) (started : os.Started) (H : Type) (enc : TypeId × Value → H) :
    ReturnsInHanded {} Try.checked os 7 .any (Rows.exchangeOnceSpec.pre6 enc Try.prog Try.f7 Rows.exchangeOnceRow.domain false) (Rows.exchangeOnceSpec.post enc Try.prog Try.f7 false true false false) :=
  law_lift (C := Try.checked) (s := Rows.exchangeOnceSpec) (fn := Try.f7) ⟨rfl, fun H ds h => by
    match ds, h with
    | [a, b], _ => exact ⟨rfl, rfl, rfl⟩⟩ rfl Try.underlying4 (by kernel_rfl) laid0 own0 started (by kernel_rfl) Try.func7
    (ChangeSpec.witness6 (enc := enc) (C := Try.checked) false ⟨#[], #[.slice none 0 0, .slice none 0 0], []⟩ 8 (by kernel_rfl) (by kernel_rfl) (by kernel_rfl) (by kernel_rfl)) once_walk

/-- THE STATEMENT: ExchangeOnce. -/
theorem once_holds : Rows.ExchangeOnceSaid :=
  OpenClaim.holds_of_wide 7 Try.f7 rfl rfl rfl rfl rfl rfl rfl ⟨rfl, rfl, rfl, rfl, rfl⟩ rfl rfl rfl rfl rfl (by kernel_rfl) Try.func7 (by kernel_rfl)
    (of_decide_eq_true (by kernel_rfl)) (by unfold Func.isWrapper; rw [if_neg (of_decide_eq_false (by kernel_rfl))]; exact ⟨rfl, rfl⟩)
    (fun os started H enc _ => once_lift os started H enc)
end Go.Proofs.Ythdbojbblkfhaaa
