/-
  Layer 37 (post): the reference's add.
-/
import Derived.Test.YtifcelebfagjbaaGreatDoorMgS
import Derived.Test.YtifcelebfagjbaaGreatDoorMgJ
import Derived.Test.YtifcelebfagjbaaGreatDoorMgN
namespace Go.Proofs.YtifcelebfagjbaaGreatDoor
open Go.RowKit Go.Tw Go.Tw.Ord Go.Tw.Po Go.Sort
set_option maxRecDepth 100000 in
set_option maxHeartbeats 4000000 in
theorem addR_any (l : List SI) (v : Value) (a : ByteArray) (n : Int) (w : World) (h : SlIs tSI (· < w.heap.size) w v l) (hl : l.length ≤ 1000) (ha : a.size ≤ maxLen) (hm : Amt 4611686018427387904 l) (hn : -4611686018427387903 ≤ n ∧ n ≤ 4611686018427387903) :
    Calls Tryz.prog 74 #[v, .string a, .int .i64 n] w fun e w' => (∃ v', e = .returned v' ∧ NewL tSI 101 w.heap.size w' v' (addP l a n)) ∧ Below w.heap.size w w' := by
  obtain ⟨ao, cap, _, _, rfl, -⟩ := id h
  have o0 : OwnSl tSI 101 w.heap.size (w.alloc (.cells #[] 101)) (.slice (some ⟨w.heap.size, 0, none⟩) 0 0) [] := OwnSl.lit (css := []) rfl trivial (Nat.le_refl _) (by decide)
  have h2 : SlIs tSI (· < w.heap.size) (w.alloc (.cells #[] 101)) (.slice ao l.length cap) l := h.keep (fun _ h => h) (fun k hk => Below.heap_alloc _ _ _ hk)
  have H2 := Lib.hid h2
  have HO0 := Lib.hid o0
  have HL := Lib.hid hl
  have hm0 := Lib.hid hm
  clear o0 h2 h hm
  go_enter Tryz.func74, Tryz.ntmps74
  go_wp2_with (at_builtin; refine wpList_append_old (.tmp 9) (.tmp 10) rfl 54 rfl slPst rfl HO0.out rfl H2.out (small_bytes (k := 1000) (by simpa using HL.out) (by decide)) (Nat.le_trans (by simpa using HL.out) (show 1000 ≤ maxLen by decide)) (by simp) ?_; intro v' w1 ho1 hg1 hb1)
  rw [List.nil_append] at ho1
  have HN := Lib.hid (NewL.ofOwn ownSI ho1 (Nat.le_refl _))
  have HB := Lib.hid ((bl_alloc (Below.refl w.heap.size w) (.cells #[] 101)).trans hb1)
  obtain ⟨ao, cap, b, off, rfl, h1, h2, ho⟩ := si_open HN.out.sl'
  unfold maxLen at h2
  have HO := Lib.hid ho
  have hwz := HB.out.size
  clear ho ho1 hg1 hb1 H2 HO0
  go_loopg [8] l.length (fun gx i wr => ∃ (k : Nat), k + gx = l.length ∧ i = .int .i64 k ∧ Hid (∀ i (hi : i < l.length), i < k → l[i].s ≠ a) ∧ wr = w1)
  case atStart => exact ⟨0, by omega, rfl, Lib.hid (fun i _ hi => by omega), rfl⟩
  case round =>
    obtain ⟨k, hk, rfl, HT, rfl⟩ := hrel
    by_cases hlt : k < l.length
    · obtain ⟨rfl, hbS, hbi, hok, d0, d1⟩ := HO.out wr (SameOn.refl _ _) k hlt
      have k0 : (0 : Int) ≤ (k : Int) := by omega
      have k1 : (k : Int) < (l.length : Int) := by omega
      by_cases he : l[k].s = a
      · have e1 : (l[k].s.toList == a.toList) = true := by rw [eq_str]; simpa using he
        obtain ⟨F, o1, o2, o3⟩ := HN.out
        obtain ⟨g2, cap2, cs, Fi, hv2, -, -, hel, -, hst⟩ := o1.upd o2 k hlt
        injection hv2 with q1 q2 q3
        injection q1 with q1
        injection q1 with q1 q4
        subst q1 q4 q3
        rw [Nat.zero_add] at d0 d1
        obtain ⟨rfl, rfl, -⟩ := tSI_own hel.own
        have hgb := o3 _ hel.mem
        have hAD := add_set hlt he HT.out (n := n)
        have hmk := hm0.out _ (List.getElem_mem hlt)
        have hso := hok.s
        have hw : IntKind.i64.wrap (l[k].n + n) = l[k].n + n := wrap_in (by omega) (by omega)
        have HW := Lib.hid (show NewL tSI 101 w.heap.size (wr.setCell ⟨b, k * 2 + 1, none⟩ (.int .i64 (l[k].n + n))) (.slice (some ⟨b, 0, none⟩) l.length cap) (addP l a n) from by
          obtain ⟨F', f1, f2, f3⟩ := hst wr [] (SI.mk l[k].s (l[k].n + n)) 1 (.int .i64 (l[k].n + n)) (fun _ _ _ => rfl) (by decide) (tSI_own_mk (r := SI.mk l[k].s (l[k].n + n)) ⟨hso, show -9223372036854775808 ≤ l[k].n + n ∧ l[k].n + n ≤ 9223372036854775807 by omega⟩) List.nodup_nil (fun b hb => by simp at hb)
          rw [hAD]
          refine ⟨F', ?_, f2, fun b hb => ?_⟩
          · exact f1
          · rcases f3 b hb with q | q
            · exact o3 b q
            · simp at q)
        have hfz : ∀ j, wr.frozen? ⟨b, j, none⟩ = false := hel.free
        have HDK := Lib.hid (show Below w.heap.size w (wr.setCell ⟨b, k * 2 + 1, none⟩ (.int .i64 (l[k].n + n))) from bl_set HB.out _ hgb)
        clear hst hel o1 o2 o3 hAD HO
        generalize l[k].s = ys at *
        generalize l[k].n = yn at *
        go_wp2
        go_ret
        exact ⟨⟨_, rfl, HW.out⟩, HDK.out⟩
      · have e1 : (l[k].s.toList == a.toList) = false := by rw [eq_str]; simpa using he
        go_wp2
        go_roundg (l.length - (k + 1))
        case measure => omega
        case rel => exact ⟨k + 1, by omega, by go_num, Lib.hid (fun i hi h => by
          by_cases e : i = k
          · subst e; exact he
          · exact HT.out i hi (by omega)), rfl⟩
    · have hkd : decide ((k : Int) < (l.length : Int)) = false := by simp; omega
      have hAD := Lib.hid (add_end (n := n) fun i hi => HT.out i hi (by omega))
      have hsi : SIOk ⟨a, n⟩ := ⟨ha, show -9223372036854775808 ≤ n ∧ n ≤ 9223372036854775807 by omega⟩
      have hnx : New tSI wr.heap.size wr (siCells ⟨a, n⟩) ⟨a, n⟩ := ⟨[], tSI_own_mk hsi, List.nodup_nil, fun b hb => by simp at hb⟩
      have HNX := Lib.hid hnx
      clear hnx hsi HO
      go_wp2_with (at_builtin
                   refine wpList_append_new (.tmp 37) (.tmp 41) rfl 54 rfl slPst rfl HN.out (Below.refl _ _) rfl HNX.out (by have := HL.out; omega) (by have := HL.out; unfold maxLen; omega) hwz ?_
                   intro v' w5 hn5 hb5
                   have HN5 := Lib.hid hn5
                   have HB5 := Lib.hid (HB.out.trans hb5)
                   clear hn5 hb5)
      go_ret
      exact ⟨⟨_, rfl, by rw [hAD.out]; exact HN5.out⟩, HB5.out⟩
end Go.Proofs.YtifcelebfagjbaaGreatDoor
/-
  Layer 37 (post): the reference's enter.
-/
namespace Go.Tw.Po
open Go.RowKit Go.Tw Go.Sort Go.Tw.Ord
theorem clean_take {l : List SI} {k : Nat} (hk : k < l.length) : cleanP (l.take (k + 1)) = if l[k].n = 0 then cleanP (l.take k) else cleanP (l.take k) ++ [l[k]] := by
  unfold cleanP
  rw [List.take_succ_eq_append_getElem hk, List.filter_append, List.filter_cons, List.filter_nil]
  by_cases h : l[k].n = 0 <;> simp [h]
theorem ent_nil {es : List Ent} {k : ByteArray} {t : Int} {ps : List SI} (h : cleanP ps = []) : enterL es k t ps = (es, 0) := by unfold enterL; rw [if_pos h]
theorem ent_go {es : List Ent} {k : ByteArray} {t : Int} {ps : List SI} (h : cleanP ps ≠ []) : enterL es k t ps = postL es ⟨k, t, cleanP ps⟩ := by unfold enterL; rw [if_neg h]
end Go.Tw.Po
namespace Go.Proofs.YtifcelebfagjbaaGreatDoor
open Go.RowKit Go.Tw Go.Tw.Ord Go.Tw.Po Go.Sort
/-- the answer of the reference's enter -/
def EntRE (R : Nat → Prop) (w : World) (vd : Value) (es : List Ent) (r : List Ent × Int) (e : Ending) (w' : World) : Prop := (∃ ve, e = .returned (.tuple #[.agg #[ve, vd], .int .i64 r.2]) ∧ SlIs (tEnt 101) (fun k => R k ∧ k < w'.heap.size) w' ve (if r.2 = 0 then r.1 else es)) ∧ Below w.heap.size w w'
/-- the boxes of enter -/
structure NW (n : Nat) (ve vd : Value) (wr : World) : Prop where
  b0 : BB n ve vd wr
  b1 : BB (n + 1) (.slice none 0 0) (.slice none 0 0) wr
theorem NW.same {n : Nat} {ve vd : Value} {w w' : World} (h : NW n ve vd w) (hs : ∀ k, n ≤ k → k ≤ n + 1 → w'.heap[k]? = w.heap[k]?) : NW n ve vd w' :=
  ⟨(hs n (Nat.le_refl _) (by omega)).trans h.b0, (hs (n + 1) (by omega) (by omega)).trans h.b1⟩
theorem NW.step {n B : Nat} {ve vd : Value} {w w' : World} (h : NW n ve vd w) (hb : Below B w w') (hB : n + 1 < B) : NW n ve vd w' := h.same fun k _ hk => hb.block k (by omega)
set_option maxRecDepth 100000 in
set_option maxHeartbeats 8000000 in
theorem enterR_any (R : Nat → Prop) (es : List Ent) (ve : Value) (ad : Option Addr) (nd cd : Nat) (key : ByteArray) (tm : Int) (ps : List SI) (vp : Value) (w : World) (hR : ∀ k, w.heap.size ≤ k → R k) (he : SlIs (tEnt 101) (fun k => R k ∧ k < w.heap.size) w ve es) (hp : SlIs tSI (· < w.heap.size) w vp ps) (hk : key.size ≤ maxLen) (ht : i64ok tm) (hes : ∀ x ∈ es, EOk x) (hl : es.length ≤ 1000) (hep : ps.length ≤ 4) :
    Calls Tryz.prog 75 #[.agg #[ve, .slice ad nd cd], .string key, .int .i64 tm, vp] w (EntRE R w (.slice ad nd cd) es (enterL es key tm ps)) := by
  have n0 := alloc2_0 w (.cells #[ve, .slice ad nd cd] 70) (.cells #[.slice none 0 0, .slice none 0 0] 70)
  have n1 := alloc2_1 w (.cells #[ve, .slice ad nd cd] 70) (.cells #[.slice none 0 0, .slice none 0 0] 70)
  have HY := Lib.hid (show NW w.heap.size ve (.slice ad nd cd) _ from ⟨n0, n1⟩)
  have HB0 := Lib.hid (bl_alloc (bl_alloc (Below.refl w.heap.size w) (.cells #[ve, .slice ad nd cd] 70)) (.cells #[.slice none 0 0, .slice none 0 0] 70))
  obtain ⟨ae, ce, _, _, rfl, -⟩ := id he
  obtain ⟨ap, cp, bp, op, rfl, hp1, hp2, hpo⟩ := si_open hp
  have HPO := Lib.hid hpo
  have HE := Lib.hid he
  have HRR := Lib.hid hR
  have HES := Lib.hid hes
  have HKZ := Lib.hid hk
  have HTM := Lib.hid ht
  unfold maxLen at hp2
  clear he hR hp hpo hes hk ht n0 n1
  go_enter Tryz.func75, Tryz.ntmps75
  go_upto_region 1 with (fail)
  generalize (w.alloc (.cells #[.slice ae es.length ce, .slice ad nd cd] 70)).alloc (.cells #[.slice none 0 0, .slice none 0 0] 70) = w0 at HY HB0 ⊢
  have hl0 := lt_of_heap HY.out.b1
  have o0 : OwnSl tSI 101 w0.heap.size (w0.alloc (.cells #[] 101)) (.slice (some ⟨w0.heap.size, 0, none⟩) 0 0) [] := OwnSl.lit (css := []) rfl trivial (Nat.le_refl _) (by decide)
  have HN0 := Lib.hid (NewL.ofOwn ownSI o0 (Nat.le_refl _))
  have HA := Lib.hid (bl_alloc (Below.refl w0.heap.size w0) (.cells #[] 101))
  clear o0
  go_upto_region 2 with (fail)
  generalize w0.alloc (.cells #[] 101) = w1 at HN0 HA ⊢
  have HY1 := Lib.hid (HY.out.step HA.out hl0)
  have HB1 := Lib.hid (bl_trans HB0.out HA.out)
  have hz1 := HA.out.size
  clear HY HB0
  go_wp2
  go_loopg [10, 11] ps.length (fun g sv i wr => ∃ k : Nat, k + g = ps.length ∧ i = .int .i64 k ∧ NewL tSI 101 w0.heap.size wr sv (cleanP (ps.take k)) ∧ Hid (Below w0.heap.size w1 wr))
  case atStart => exact ⟨0, by omega, rfl, HN0.out, Lib.hid (Below.refl _ _)⟩
  case round =>
    obtain ⟨k, hk, rfl, hn, HBW⟩ := hrel
    have HN := Lib.hid hn
    obtain ⟨aO, cO, rfl, -⟩ := hn.form
    have hcl : (cleanP (ps.take k)).length ≤ k := Nat.le_trans (clean_len _) (by rw [List.length_take]; omega)
    have HWW := Lib.hid (HB1.out.trans (HBW.out.mono (by omega)))
    clear hn
    by_cases hlt : k < ps.length
    · obtain ⟨rfl, -, hbi, hok, c0, c1⟩ := HPO.out wr (.of_below HWW.out) k hlt
      have k0 : (0 : Int) ≤ (k : Int) := by omega
      have k1 : (k : Int) < (ps.length : Int) := by omega
      have HCT := Lib.hid (clean_take hlt)
      generalize ps[k] = p at *
      obtain ⟨xs, xn⟩ := p
      simp only at c0 c1 HCT
      have hwz : w0.heap.size ≤ wr.heap.size := Nat.le_trans hz1 HBW.out.size
      by_cases hz : xn = 0
      · subst hz
        clear hok
        go_wp2
        go_roundg (ps.length - (k + 1))
        case measure => omega
        case rel => exact ⟨k + 1, by omega, by go_num, by rw [HCT.out, if_pos (by trivial)]; exact HN.out, HBW⟩
      · have hzn : (xn != 0) = true := by simpa using hz
        have HZ := Lib.hid hz
        have HNX := Lib.hid (show New tSI wr.heap.size wr (siCells ⟨xs, xn⟩) ⟨xs, xn⟩ from ⟨[], tSI_own_mk hok, List.nodup_nil, fun b hb => by simp at hb⟩)
        clear hok hz
        go_wp2_with (at_builtin
                     refine wpList_append_new (.tmp 27) (.tmp 32) rfl 54 rfl slPst rfl HN.out (Below.refl _ _) rfl HNX.out (by omega) (by unfold maxLen; omega) hwz ?_
                     intro v' w5 hn5 hb5
                     have HN5 := Lib.hid hn5
                     have HB5 := Lib.hid (HBW.out.trans hb5)
                     clear hn5 hb5)
        go_roundg (ps.length - (k + 1))
        case measure => omega
        case rel => exact ⟨k + 1, by omega, by go_num, by rw [HCT.out, if_neg HZ.out]; exact HN5.out, HB5⟩
    · have hkd : decide ((k : Int) < (ps.length : Int)) = false := by simp; omega
      rw [show ps.take k = ps from List.take_of_length_le (by omega)] at HN hcl ⊢
      have HYW := Lib.hid (HY1.out.step HBW.out (by omega))
      obtain ⟨d0, d1, -⟩ := blk2 HYW.out.b0
      obtain ⟨f0, f1, ff⟩ := blk2 HYW.out.b1
      have hl1 := lt_of_heap HYW.out.b1
      by_cases hnil : cleanP ps = []
      · have hlz : (cleanP ps).length = 0 := by rw [hnil]; rfl
        have HR := Lib.hid (ent_nil (es := es) (k := key) (t := tm) hnil)
        rw [hlz] at HN ⊢
        clear hnil hcl
        go_wp2
        have g5 : ((wr.setCell ⟨w.heap.size + 1, 0, none⟩ (.slice ae es.length ce)).setCell ⟨w.heap.size + 1, 1, none⟩ (.slice ad nd cd)).heap[w.heap.size + 1]? = some (.cells #[.slice ae es.length ce, .slice ad nd cd] 70 (0, 0)) := heap_setCell_same _ _ _ _ _ _ (heap_setCell_same _ _ _ _ _ _ HYW.out.b1)
        have b5 : Below w.heap.size w ((wr.setCell ⟨w.heap.size + 1, 0, none⟩ (.slice ae es.length ce)).setCell ⟨w.heap.size + 1, 1, none⟩ (.slice ad nd cd)) := bl_set (bl_set HWW.out _ (by simp only; omega)) _ (by simp only; omega)
        obtain ⟨k0, k1, -⟩ := blk2 g5
        generalize (wr.setCell ⟨w.heap.size + 1, 0, none⟩ (.slice ae es.length ce)).setCell ⟨w.heap.size + 1, 1, none⟩ (.slice ad nd cd) = wq at *
        refine bodyPost_ret (v := .tuple #[.agg #[.slice ae es.length ce, .slice ad nd cd], .int .i64 0]) (by simp [results, Tryz.results75, go_sem, k0, k1]) rfl ?_
        rw [HR.out]
        exact ⟨⟨_, rfl, (HE.out.keep (fun q hq => ⟨hq.1, Nat.lt_of_lt_of_le hq.2 b5.size⟩) (fun q hq => b5.block q hq.2))⟩, b5⟩
      · have hlz : (cleanP ps).length ≠ 0 := fun e => hnil (List.eq_nil_of_length_eq_zero e)
        have HGO := Lib.hid (ent_go (es := es) (k := key) (t := tm) hnil)
        have hlz' : (((cleanP ps).length : Int) == 0) = false := by rw [beq_eq_false_iff_ne]; omega
        have HPR := Lib.hid (postR_any es (.slice ae es.length ce) ⟨key, tm, cleanP ps⟩ (.slice aO (cleanP ps).length cO) wr (HE.out.keep (fun q hq => Nat.lt_of_lt_of_le hq.2 HWW.out.size) (fun q hq => HWW.out.block q hq.2)) HN.out.sl' ⟨HKZ.out, HTM.out⟩ HES.out hl (Nat.le_trans (clean_len _) hep))
        unfold LedE at HPR
        clear hnil f0 f1 ff
        go_wp2_with (fail)
        with_reducible refine HPR.out.mono ?_
        clear HPR
        rintro r w2 ⟨⟨v2, rfl, hs2⟩, hb2⟩
        obtain ⟨⟨e9, z⟩, hr⟩ : ∃ r, postL es ⟨key, tm, cleanP ps⟩ = r := ⟨_, rfl⟩
        rw [hr] at hs2 HGO ⊢
        simp only at hs2 ⊢
        obtain ⟨a9, c9, _, _, rfl, -⟩ := id hs2
        have HS2 := Lib.hid hs2
        have HY2 := Lib.hid (HYW.out.step hb2 hl1)
        have HB2 := Lib.hid (bl_trans HWW.out hb2)
        have hwz2 := HWW.out.size
        clear hs2 hb2 d0 d1 hr
        have hl2 := lt_of_heap HY2.out.b1
        obtain ⟨d0, d1, df⟩ := blk2 HY2.out.b0
        obtain ⟨f0, f1, ff⟩ := blk2 HY2.out.b1
        have hl3 : w.heap.size < w2.heap.size := by omega
        by_cases hz : z = 0
        case neg =>
          have hz1 : (z != 0) = true := by simpa using hz
          have HR := Lib.hid HGO.out
          have HZ := Lib.hid hz
          clear hz
          go_wp2
          have g5 := alloc1_old (.cells #[.slice a9 e9.length c9] 68) (show ((w2.setCell ⟨w.heap.size + 1, 0, none⟩ (.slice ae es.length ce)).setCell ⟨w.heap.size + 1, 1, none⟩ (.slice ad nd cd)).heap[w.heap.size + 1]? = some (.cells #[.slice ae es.length ce, .slice ad nd cd] 70 (0, 0)) from heap_setCell_same _ _ _ _ _ _ (heap_setCell_same _ _ _ _ _ _ HY2.out.b1))
          have b5 : Below w.heap.size w (((w2.setCell ⟨w.heap.size + 1, 0, none⟩ (.slice ae es.length ce)).setCell ⟨w.heap.size + 1, 1, none⟩ (.slice ad nd cd)).alloc (.cells #[.slice a9 e9.length c9] 68)) := bl_alloc (bl_set (bl_set HB2.out _ (by simp only; omega)) _ (by simp only; omega)) _
          obtain ⟨t0, t1, -⟩ := blk2 g5
          clear f0 f1 ff d0 d1 df
          generalize ((w2.setCell ⟨w.heap.size + 1, 0, none⟩ (.slice ae es.length ce)).setCell ⟨w.heap.size + 1, 1, none⟩ (.slice ad nd cd)).alloc (.cells #[.slice a9 e9.length c9] 68) = wq at *
          refine bodyPost_ret (v := .tuple #[.agg #[.slice ae es.length ce, .slice ad nd cd], .int .i64 z]) (by simp [results, Tryz.results75, go_sem, t0, t1]) rfl ?_
          rw [HR.out]
          exact ⟨⟨_, rfl, by rw [if_neg HZ.out]; exact HE.out.keep (fun q hq => ⟨hq.1, Nat.lt_of_lt_of_le hq.2 b5.size⟩) (fun q hq => b5.block q hq.2)⟩, b5⟩
        subst hz
        have HR := Lib.hid HGO.out
        go_wp2
        have g4 := (Below.heap_setCell w2 ⟨w.heap.size, 0, none⟩ (.slice a9 e9.length c9) (w.heap.size + 1) (by simp only; omega)).trans HY2.out.b1
        have g5 := alloc1_old (.cells #[.slice a9 e9.length c9] 68) (show (((w2.setCell ⟨w.heap.size, 0, none⟩ (.slice a9 e9.length c9)).setCell ⟨w.heap.size + 1, 0, none⟩ (.slice a9 e9.length c9)).setCell ⟨w.heap.size + 1, 1, none⟩ (.slice ad nd cd)).heap[w.heap.size + 1]? = some (.cells #[.slice a9 e9.length c9, .slice ad nd cd] 70 (0, 0)) from heap_setCell_same _ _ _ _ _ _ (heap_setCell_same _ _ _ _ _ _ g4))
        have b5 : Below w.heap.size w ((((w2.setCell ⟨w.heap.size, 0, none⟩ (.slice a9 e9.length c9)).setCell ⟨w.heap.size + 1, 0, none⟩ (.slice a9 e9.length c9)).setCell ⟨w.heap.size + 1, 1, none⟩ (.slice ad nd cd)).alloc (.cells #[.slice a9 e9.length c9] 68)) := bl_alloc (bl_set (bl_set (bl_set HB2.out _ (by simp only; omega)) _ (by simp only; omega)) _ (by simp only; omega)) _
        have hoth : ∀ q, w.heap.size + 2 ≤ q → q < w2.heap.size → ((((w2.setCell ⟨w.heap.size, 0, none⟩ (.slice a9 e9.length c9)).setCell ⟨w.heap.size + 1, 0, none⟩ (.slice a9 e9.length c9)).setCell ⟨w.heap.size + 1, 1, none⟩ (.slice ad nd cd)).alloc (.cells #[.slice a9 e9.length c9] 68)).heap[q]? = w2.heap[q]? := fun q hq hq2 => (Below.heap_alloc _ _ _ (by simpa using hq2)).trans (((Below.heap_setCell _ _ _ _ (by simp only; omega)).trans (Below.heap_setCell _ _ _ _ (by simp only; omega))).trans (Below.heap_setCell _ _ _ _ (by simp only; omega)))
        have hz17 : w2.heap.size < ((((w2.setCell ⟨w.heap.size, 0, none⟩ (.slice a9 e9.length c9)).setCell ⟨w.heap.size + 1, 0, none⟩ (.slice a9 e9.length c9)).setCell ⟨w.heap.size + 1, 1, none⟩ (.slice ad nd cd)).alloc (.cells #[.slice a9 e9.length c9] 68)).heap.size := by simp
        obtain ⟨t0, t1, -⟩ := blk2 g5
        clear f0 f1 ff d0 d1 df g4
        generalize (((w2.setCell ⟨w.heap.size, 0, none⟩ (.slice a9 e9.length c9)).setCell ⟨w.heap.size + 1, 0, none⟩ (.slice a9 e9.length c9)).setCell ⟨w.heap.size + 1, 1, none⟩ (.slice ad nd cd)).alloc (.cells #[.slice a9 e9.length c9] 68) = wq at *
        refine bodyPost_ret (v := .tuple #[.agg #[.slice a9 e9.length c9, .slice ad nd cd], .int .i64 0]) (by simp [results, Tryz.results75, go_sem, t0, t1]) rfl ?_
        rw [HR.out]
        exact ⟨⟨_, rfl, by rw [if_pos rfl]; exact HS2.out.keep (fun q hq => ⟨HRR.out q (by have := hq.1 (by trivial); omega), by omega⟩) (fun q hq => hoth q (by have := hq.1 (by trivial); omega) hq.2)⟩, b5⟩
end Go.Proofs.YtifcelebfagjbaaGreatDoor
/-
  Layer 37 (post): the reference's put: plain; own slices whose elements look at what R allows.
-/
namespace Go.Tw
open Go.RowKit
variable {α : Type} {T : Ty α} {e : TypeId} {B : Nat} {R : Nat → Prop} {w w' : World} {v : Value} {l : List α}
def OwnP {α : Type} (T : Ty α) (e : TypeId) (B : Nat) (R : Nat → Prop) (w : World) (v : Value) (l : List α) : Prop := OwnS T e B (fun k => R k ∧ k < w.heap.size ∧ some k ≠ v.ownBlock) w v l
theorem OwnP.below (h : OwnP T e B R w v l) (hb : Below w.heap.size w w') : OwnP T e B R w' v l :=
  (OwnS.below h (fun k hk => hk.2.1) hb).mono fun k hk => ⟨hk.1, Nat.lt_of_lt_of_le hk.2.1 hb.size, hk.2.2⟩
theorem OwnP.sl (h : OwnP T e B R w v l) (hR : ∀ k, B ≤ k → R k) : SlIs T (fun k => R k ∧ k < w.heap.size) w v l :=
  (OwnS.sl h).keep (fun k hk => by
    rcases hk with hk | hk
    · exact ⟨hk.1, hk.2.1⟩
    · have := OwnS.own_lt h k hk
      exact ⟨hR k this.1, this.2⟩) (SameOn.refl _ _)
theorem OwnP.form (h : OwnP T e B R w v l) : ∃ ao cap, v = .slice ao l.length cap ∧ l.length ≤ cap ∧ cap ≤ maxLen := OwnS.form h
section
variable {P : Program} {ops : Array Oper} {rest : List Oper} {o : Oper} {a : Act} {Q : Exit → Act → World → Prop}
theorem wpList_append_P (s x : Operand) (hgd : o.guard = none) (t : TypeId)
    (ho : o.op = .call { callee := .builtin .append, args := #[s, x], argTypes := #[t, t] }) {e' : TypeId} {bytes : Nat} (hT : SlT P t e T.sz bytes) {y : α} {cs : Array Value} (hs : a.eval s = v) (h : OwnP T e B R w v l) (hR : ∀ k, B ≤ k → R k)
    (hx : a.eval x = .slice (some ⟨w.heap.size, 0, none⟩) 1 1) (hy : T.is (fun k => R k ∧ k < w.heap.size ∧ some k ≠ v.ownBlock) w cs.toList y) (hbytes : (l.length + 1) * bytes ≤ 140737488355328) (h63 : l.length + 1 ≤ maxLen) (hB : B ≤ w.heap.size)
    (k : ∀ v' w', OwnP T e B R w' v' (l ++ [y]) → Below B w w' → wpList P ops Q rest (a.put o.dst v') w') : wpList P ops Q (o :: rest) a (w.alloc (.cells cs e')) := by
  have hv := OwnS.own_lt h
  refine wpList_append_oneS s x hgd t ho hT hs h (fun k hk => ⟨hk.2.1, hk.2.2⟩) hx hy (fun k hk => ⟨hk.2.1, hk.2.2⟩) hbytes h63 hB fun v' w' g1 g2 g3 => k v' w' (OwnS.mono g1 fun q hq => ?_) ?_
  · have sz := g2.size
    simp at sz
    have key : R q ∧ q < w.heap.size + 1 ∧ some q ≠ v.ownBlock := by
      rcases hq with hq | hq | rfl
      · exact ⟨hq.1, by omega, hq.2.2⟩
      · exact ⟨hq.1, by omega, hq.2.2⟩
      · exact ⟨hR _ hB, by omega, fun e => by have := hv _ e.symm; omega⟩
    refine ⟨key.1, by omega, ?_⟩
    rcases g3 with g3 | g3
    · rw [g3]; exact key.2.2
    · rw [g3]; simp; omega
  · exact ((Below.refl _ _).alloc hB _).trans (Below.of_grown g2 (by simp; omega) (fun k hk => (hv k hk).1))
end
end Go.Tw
namespace Go.Tw.Po
open Go.RowKit Go.Tw Go.Sort Go.Tw.Ord Go.Proofs.YtifcelebfagjbaaGreatDoor
def loK (x : Chg) (l : List Chg) : List Chg := l.filter fun y => ltB y.key x.key
def hiK (x : Chg) (l : List Chg) : List Chg := l.filter fun y => ltB x.key y.key
/-- what put has collected -/
def outK (x : Chg) (l : List Chg) : List Chg := loK x l ++ if hiK x l = [] then [] else x :: hiK x l
def inK (x : Chg) (l : List Chg) : Bool := !(hiK x l).isEmpty
theorem outK_len (x : Chg) (l : List Chg) : (outK x l).length ≤ 2 * l.length + 1 := by
  unfold outK loK hiK
  have h1 := List.length_filter_le (fun y => ltB y.key x.key) l
  have h2 := List.length_filter_le (fun y => ltB x.key y.key) l
  rw [List.length_append]
  split
  · simp; omega
  · simp; omega
theorem loK_take {x : Chg} {l : List Chg} {k : Nat} (hk : k < l.length) : loK x (l.take (k + 1)) = if ltB l[k].key x.key = true then loK x (l.take k) ++ [l[k]] else loK x (l.take k) := by
  unfold loK
  rw [List.take_succ_eq_append_getElem hk, List.filter_append, List.filter_cons, List.filter_nil]
  split <;> simp
theorem hiK_take {x : Chg} {l : List Chg} {k : Nat} (hk : k < l.length) : hiK x (l.take (k + 1)) = if ltB x.key l[k].key = true then hiK x (l.take k) ++ [l[k]] else hiK x (l.take k) := by
  unfold hiK
  rw [List.take_succ_eq_append_getElem hk, List.filter_append, List.filter_cons, List.filter_nil]
  split <;> simp
/-- the same key: nothing is collected -/
theorem put_eq {x : Chg} {l : List Chg} {k : Nat} (hk : k < l.length) (h : l[k].key = x.key) : outK x (l.take (k + 1)) = outK x (l.take k) ∧ inK x (l.take (k + 1)) = inK x (l.take k) := by
  have h1 := loK_take (x := x) hk
  have h2 := hiK_take (x := x) hk
  rw [h, ltB_irrefl] at h1 h2
  simp only [Bool.false_eq_true, if_false] at h1 h2
  unfold outK inK
  rw [h1, h2]
  exact ⟨rfl, rfl⟩
/-- the first one above -/
theorem put_first {x : Chg} {l : List Chg} {k : Nat} (hk : k < l.length) (h : ltB x.key l[k].key = true) (hi : inK x (l.take k) = false) : outK x (l.take (k + 1)) = outK x (l.take k) ++ [x] ++ [l[k]] ∧ inK x (l.take (k + 1)) = true := by
  have h1 := loK_take (x := x) hk
  have h2 := hiK_take (x := x) hk
  rw [ltB_asymm h] at h1
  rw [h] at h2
  simp only [Bool.false_eq_true, if_false, if_true] at h1 h2
  have h3 : hiK x (l.take k) = [] := by unfold inK at hi; simpa using hi
  unfold outK inK
  rw [h1, h2, h3]
  simp
/-- one more above -/
theorem put_more {x : Chg} {l : List Chg} {k : Nat} (hk : k < l.length) (hs : SortK l) (hi : inK x (l.take k) = true) : ltB x.key l[k].key = true ∧ outK x (l.take (k + 1)) = outK x (l.take k) ++ [l[k]] ∧ inK x (l.take (k + 1)) = true := by
  have h3 : hiK x (l.take k) ≠ [] := by unfold inK at hi; simpa using hi
  obtain ⟨z, hz⟩ := List.exists_mem_of_ne_nil _ h3
  obtain ⟨hz1, hz2⟩ := List.mem_filter.1 hz
  obtain ⟨i, hi2, rfl⟩ := List.getElem_of_mem hz1
  rw [List.getElem_take] at hz2
  have hik : i < k := by rw [List.length_take] at hi2; omega
  have hlt := List.pairwise_iff_getElem.1 hs i k (by omega) hk hik
  have h : ltB x.key l[k].key = true := ltB_trans hz2 hlt
  have h1 := loK_take (x := x) hk
  have h2 := hiK_take (x := x) hk
  rw [ltB_asymm h] at h1
  rw [h] at h2
  simp only [Bool.false_eq_true, if_false, if_true] at h1 h2
  refine ⟨h, ?_, ?_⟩
  · unfold outK
    rw [h1, h2, if_neg h3, if_neg (by simp)]
    simp
  · unfold inK
    rw [h2]
    simp
/-- one below -/
theorem put_less {x : Chg} {l : List Chg} {k : Nat} (hk : k < l.length) (hne : l[k].key ≠ x.key) (hn : ltB x.key l[k].key = false) (hi : inK x (l.take k) = false) : outK x (l.take (k + 1)) = outK x (l.take k) ++ [l[k]] ∧ inK x (l.take (k + 1)) = false := by
  have h : ltB l[k].key x.key = true := by
    cases hq : ltB l[k].key x.key with
    | true => rfl
    | false => exact absurd (ltB_total hq hn) hne
  have h1 := loK_take (x := x) hk
  have h2 := hiK_take (x := x) hk
  rw [h] at h1
  rw [hn] at h2
  simp only [Bool.false_eq_true, if_false, if_true] at h1 h2
  have h3 : hiK x (l.take k) = [] := by unfold inK at hi; simpa using hi
  unfold outK inK
  rw [h1, h2, h3]
  simp
theorem put_last {x : Chg} {l : List Chg} (hs : SortK l) : putP l x = if inK x l = true then outK x l else outK x l ++ [x] := by
  rw [put_ref hs]
  unfold outK inK
  show loK x l ++ x :: hiK x l = _
  by_cases h : hiK x l = []
  · rw [h]; simp
  · rw [if_neg h, if_pos (by simpa using h)]
end Go.Tw.Po
/-
  Layer 37 (post): the reference's put.
-/
namespace Go.Tw
open Go.RowKit
theorem OwnP.ofNil {α : Type} {T : Ty α} {e : TypeId} {B : Nat} {R : Nat → Prop} {w : World} {v : Value} (h : OwnSl T e B w v ([] : List α)) : OwnP T e B R w v ([] : List α) := by
  obtain ⟨css, h1, h2⟩ := h
  cases css with
  | nil => exact ⟨[], h1, trivial⟩
  | cons _ _ => exact h2.elim
end Go.Tw
namespace Go.Proofs.YtifcelebfagjbaaGreatDoor
open Go.RowKit Go.Tw Go.Tw.Ord Go.Tw.Po Go.Sort
set_option maxRecDepth 100000 in
set_option maxHeartbeats 8000000 in
theorem putR_any (R : Nat → Prop) (l : List Chg) (v : Value) (x : Chg) (xa : Option Addr) (xc : Nat) (w : World) (hR : ∀ k, w.heap.size ≤ k → R k) (h : SlIs (tChg eL) (fun k => R k ∧ k < w.heap.size) w v l) (hv : SlIs tSI (fun k => R k ∧ k < w.heap.size) w (.slice xa x.ls.length xc) x.ls) (hx : ChgOk x) (hl : l.length ≤ 1000) (hs : SortK l) :
    Calls Tryz.prog 77 #[v, .agg #[.string x.key, .string x.veh, .string x.sys, .int .i64 x.cls, .int .i64 x.tm, .slice xa x.ls.length xc, .int .i64 x.c]] w fun e w' => (∃ v', e = .returned v' ∧ SlIs (tChg eL) (fun k => R k ∧ k < w'.heap.size) w' v' (putP l x)) ∧ Below w.heap.size w w' := by
  obtain ⟨ao, cap, bi, off, rfl, hl1, hm1, ho⟩ := chg_open h
  unfold maxLen at hm1
  have HO := Lib.hid ho
  have HV := Lib.hid hv
  have HX := Lib.hid hx
  have HS := Lib.hid hs
  have HRR := Lib.hid hR
  have n0 := alloc1_0 w (.cells #[.string x.key, .string x.veh, .string x.sys, .int .i64 x.cls, .int .i64 x.tm, .slice xa x.ls.length xc, .int .i64 x.c] 49)
  have HB0 := Lib.hid (bl_alloc (Below.refl w.heap.size w) (.cells #[.string x.key, .string x.veh, .string x.sys, .int .i64 x.cls, .int .i64 x.tm, .slice xa x.ls.length xc, .int .i64 x.c] 49))
  clear h hv hx hs ho hR
  go_enter Tryz.func77, Tryz.ntmps77
  go_upto_region 1 with (fail)
  generalize w.alloc (.cells #[.string x.key, .string x.veh, .string x.sys, .int .i64 x.cls, .int .i64 x.tm, .slice xa x.ls.length xc, .int .i64 x.c] 49) = w0 at n0 HB0 ⊢
  have hl0 := lt_of_heap n0
  have HN0 := Lib.hid n0
  have o0 : OwnSl (tChg eL) 49 w0.heap.size (w0.alloc (.cells #[] 49)) (.slice (some ⟨w0.heap.size, 0, none⟩) 0 0) [] := OwnSl.lit (css := []) rfl trivial (Nat.le_refl _) (by decide)
  have HP0 := Lib.hid (show OwnP (tChg eL) 49 w0.heap.size R _ _ [] from OwnP.ofNil o0)
  have HA := Lib.hid (bl_alloc (Below.refl w0.heap.size w0) (.cells #[] 49))
  clear o0 n0
  go_upto_region 2 with (fail)
  generalize w0.alloc (.cells #[] 49) = w1 at HP0 HA ⊢
  have hz1 := HA.out.size
  go_wp2
  go_loopg [5, 6, 7] l.length (fun g sv fv i wr => ∃ k : Nat, k + g = l.length ∧ i = .int .i64 k ∧ fv = .bool (inK x (l.take k)) ∧ OwnP (tChg eL) 49 w0.heap.size R wr sv (outK x (l.take k)) ∧ Hid (Below w0.heap.size w0 wr))
  case atStart => exact ⟨0, by omega, rfl, rfl, HP0.out, HA⟩
  case round =>
    obtain ⟨k, hk, rfl, rfl, hn, HBW⟩ := hrel
    have HN := Lib.hid hn
    obtain ⟨aO, cO, rfl, -⟩ := hn.form
    have hol : (outK x (l.take k)).length ≤ 2 * k + 1 := Nat.le_trans (outK_len _ _) (by rw [List.length_take]; omega)
    have HWW := Lib.hid (bl_trans HB0.out HBW.out)
    have gx := (HBW.out.block _ hl0).trans HN0.out
    obtain ⟨x0, x1, x2, x3, x4, x5, x6, -⟩ := blk7 gx
    clear hn gx
    by_cases hlt : k < l.length
    · obtain ⟨rfl, -, hbi, hok, hv, hsl, d0, d1, d2, d3, d4, d5, d6⟩ := HO.out wr (fun q hq => HWW.out.block q hq.2) k hlt
      have k0 : (0 : Int) ≤ (k : Int) := by omega
      have k1 : (k : Int) < (l.length : Int) := by omega
      have HEQ := Lib.hid (put_eq (x := x) hlt)
      have HFI := Lib.hid (put_first (x := x) hlt)
      have HMO := Lib.hid (put_more (x := x) hlt HS.out)
      have HLE := Lib.hid (put_less (x := x) hlt)
      generalize l[k] = y at *
      obtain ⟨hva, hvn, hvc, hve⟩ : ∃ a n c, hv = .slice a n c := by
        obtain ⟨a, c, _, _, e, -⟩ := hsl
        exact ⟨a, _, c, e⟩
      subst hve
      have hbw : bi < wr.heap.size := Nat.lt_of_lt_of_le hbi HWW.out.size
      have hwz := HBW.out.size
      have HOY := Lib.hid hok
      have HSL := Lib.hid hsl
      have HR0 := Lib.hid (show ∀ q, w0.heap.size ≤ q → R q from fun q hq => HRR.out q (by omega))
      have hbw0 : bi < w0.heap.size := by omega
      have HD7 := Lib.hid (show ∀ w', Below w0.heap.size wr w' → w'.cell? ⟨bi, off + k * 7, none⟩ = some (.string y.key) ∧ w'.cell? ⟨bi, off + k * 7 + 1, none⟩ = some (.string y.veh) ∧ w'.cell? ⟨bi, off + k * 7 + 2, none⟩ = some (.string y.sys) ∧ w'.cell? ⟨bi, off + k * 7 + 3, none⟩ = some (.int .i64 y.cls) ∧ w'.cell? ⟨bi, off + k * 7 + 4, none⟩ = some (.int .i64 y.tm) ∧ w'.cell? ⟨bi, off + k * 7 + 5, none⟩ = some (.slice hva hvn hvc) ∧ w'.cell? ⟨bi, off + k * 7 + 6, none⟩ = some (.int .i64 y.c) from fun w' hw' =>
        ⟨(hw'.cell (p := ⟨bi, off + k * 7, none⟩) hbw0).trans d0, (hw'.cell (p := ⟨bi, off + k * 7 + 1, none⟩) hbw0).trans d1, (hw'.cell (p := ⟨bi, off + k * 7 + 2, none⟩) hbw0).trans d2, (hw'.cell (p := ⟨bi, off + k * 7 + 3, none⟩) hbw0).trans d3, (hw'.cell (p := ⟨bi, off + k * 7 + 4, none⟩) hbw0).trans d4, (hw'.cell (p := ⟨bi, off + k * 7 + 5, none⟩) hbw0).trans d5, (hw'.cell (p := ⟨bi, off + k * 7 + 6, none⟩) hbw0).trans d6⟩)
      have HX7 := Lib.hid (show ∀ w', Below w0.heap.size wr w' → w'.cell? ⟨w.heap.size, 0, none⟩ = some (.string x.key) ∧ w'.cell? ⟨w.heap.size, 1, none⟩ = some (.string x.veh) ∧ w'.cell? ⟨w.heap.size, 2, none⟩ = some (.string x.sys) ∧ w'.cell? ⟨w.heap.size, 3, none⟩ = some (.int .i64 x.cls) ∧ w'.cell? ⟨w.heap.size, 4, none⟩ = some (.int .i64 x.tm) ∧ w'.cell? ⟨w.heap.size, 5, none⟩ = some (.slice xa x.ls.length xc) ∧ w'.cell? ⟨w.heap.size, 6, none⟩ = some (.int .i64 x.c) from fun w' hw' => by
        obtain ⟨z0, z1, z2, z3, z4, z5, z6, -⟩ := blk7 ((hw'.block _ (by omega)).trans ((HBW.out.block _ hl0).trans HN0.out))
        exact ⟨z0, z1, z2, z3, z4, z5, z6⟩)
      have HDO := Lib.hid (show ∀ w' u, Below w0.heap.size wr w' → OwnP (tChg eL) 49 w0.heap.size R w' u (outK x (l.take k)) → (tChg eL).is (fun q => R q ∧ q < w'.heap.size ∧ some q ≠ u.ownBlock) w' (cCells y (.slice hva hvn hvc)) y from fun w' u hw' hu => tChg_mk HOY.out (HSL.out.keep (fun q hq => ⟨hq.1, by have := hw'.size; omega, fun e => by have := (OwnS.own_lt hu q e.symm).1; omega⟩) (fun q hq => hw'.block q (by have := hq.2; omega))))
      clear hok hsl
      obtain ⟨b, hbq⟩ : ∃ b, (y.key.toList == x.key.toList) = b := ⟨_, rfl⟩
      have HKE := Lib.hid (show decide (y.key = x.key) = b by rw [← hbq, eq_str])
      cases b with
      | true =>
        have HE2 := Lib.hid (HEQ.out (by simpa using HKE.out))
        go_wp2_with (go_quiet (fail))
        go_roundg (l.length - (k + 1))
        case measure => omega
        case rel => exact ⟨k + 1, by omega, by go_num, by rw [HE2.out.2], by rw [HE2.out.1]; exact HN.out.below (bl_drewN (Below.refl _ _) _), Lib.hid (bl_drewN HBW.out _)⟩
      | false =>
        obtain ⟨f, hf⟩ : ∃ f, inK x (l.take k) = f := ⟨_, rfl⟩
        obtain ⟨q, hq⟩ : ∃ q, Op.bytesLess y.key.toList x.key.toList = q := ⟨_, rfl⟩
        have HQ := Lib.hid (show ltB x.key y.key = !q from by
          have h0 : ltB y.key x.key = q := (less_str _ _).symm.trans hq
          cases q with
          | true => exact ltB_asymm h0
          | false =>
            cases h1 : ltB x.key y.key with
            | true => rfl
            | false => exact absurd (ltB_total h0 h1) (by simpa using HKE.out))
        rw [hf] at HFI HMO HLE ⊢
        go_upto_region 7 with (go_quiet (fail))
        have hwa := bl_drewN (Below.refl wr.heap.size wr) nq
        generalize wr.drewN nq = wa at hwa ⊢
        clear d0 d1 d2 d3 d4 d5 d6 x0 x1 x2 x3 x4 x5 x6
        obtain ⟨d0, -⟩ := HD7.out wa (hwa.mono hwz)
        obtain ⟨x0, -⟩ := HX7.out wa (hwa.mono hwz)
        cases f with
        | true =>
          obtain ⟨m1, m2, m3⟩ := HMO.out (by trivial)
          have HM2 := Lib.hid m2
          have HM3 := Lib.hid m3
          clear m1 m2 m3
          go_upto_region 10 with (go_quiet (fail))
          have hwb := bl_trans hwa (bl_drewN (Below.refl wa.heap.size wa) nq)
          generalize wa.drewN nq = wb at hwb ⊢
          clear d0 x0
          obtain ⟨d0, d1, d2, d3, d4, d5, d6⟩ := HD7.out wb (hwb.mono hwz)
          have HNB := Lib.hid (HN.out.below hwb)
          have HDY := Lib.hid (HDO.out wb _ (hwb.mono hwz) HNB.out)
          have hzb : w0.heap.size ≤ wb.heap.size := by have := hwb.size; omega
          have HBB := Lib.hid (bl_trans HBW.out hwb)
          go_wp2_with ((at_builtin
                        refine wpList_append_P (.tmp 39) (.tmp 44) rfl 52 rfl slChg rfl HNB.out HR0.out rfl HDY.out (by omega) (by unfold maxLen; omega) hzb ?_
                        intro v5 w5 hn5 hb5
                        obtain ⟨a5, c5, rfl, -⟩ := hn5.form
                        have HN5 := Lib.hid hn5
                        have HB5 := Lib.hid hb5
                        clear hn5 hb5))
          go_roundg (l.length - (k + 1))
          case measure => omega
          case rel => exact ⟨k + 1, by omega, by go_num, by rw [HM3.out], by rw [HM2.out]; have h := HN5.out; rw [List.length_append] at h; exact h, Lib.hid (HBB.out.trans HB5.out)⟩
        | false =>
          cases q with
          | false =>
            obtain ⟨m2, m3⟩ := HFI.out (by simpa using HQ.out) (by trivial)
            have HM2 := Lib.hid m2
            have HM3 := Lib.hid m3
            clear m2 m3
            have HXO := Lib.hid (show ∀ w' u, Below w0.heap.size wr w' → OwnP (tChg eL) 49 w0.heap.size R w' u (outK x (l.take k)) → (tChg eL).is (fun q => R q ∧ q < w'.heap.size ∧ some q ≠ u.ownBlock) w' (cCells x (.slice xa x.ls.length xc)) x from fun w' u hw' hu => tChg_mk HX.out (HV.out.keep (fun q hq => ⟨hq.1, by have := hw'.size; omega, fun e => by have := (OwnS.own_lt hu q e.symm).1; omega⟩) (fun q hq => (hw'.block q (by have := hq.2; omega)).trans (HWW.out.block q hq.2))))
            have HDZ := Lib.hid (show ∀ w' u, Below w0.heap.size wr w' → OwnP (tChg eL) 49 w0.heap.size R w' u (outK x (l.take k) ++ [x]) → (tChg eL).is (fun q => R q ∧ q < w'.heap.size ∧ some q ≠ u.ownBlock) w' (cCells y (.slice hva hvn hvc)) y from fun w' u hw' hu => tChg_mk HOY.out (HSL.out.keep (fun q hq => ⟨hq.1, by have := hw'.size; omega, fun e => by have := (OwnS.own_lt hu q e.symm).1; omega⟩) (fun q hq => hw'.block q (by have := hq.2; omega))))
            go_wp2_with (first
              | (go_quiet (fail)
                 have hwb := bl_trans hwa (bl_drewN (Below.refl wa.heap.size wa) nq)
                 generalize wa.drewN nq = wb at hwb ⊢
                 clear d0 x0
                 obtain ⟨d0, d1, d2, d3, d4, d5, d6⟩ := HD7.out wb (hwb.mono hwz)
                 obtain ⟨x0, x1, x2, x3, x4, x5, x6⟩ := HX7.out wb (hwb.mono hwz)
                 have HNB := Lib.hid (HN.out.below hwb)
                 have HDY := Lib.hid (HDO.out wb _ (hwb.mono hwz) HNB.out)
                 have hzb : w0.heap.size ≤ wb.heap.size := by have := hwb.size; omega
                 have HBB := Lib.hid (bl_trans HBW.out hwb)
                 have HWB := Lib.hid hwb
                 clear hwb hwa)
              | (at_builtin
                 have HXY := Lib.hid (HXO.out wb _ (HWB.out.mono hwz) HNB.out)
                 refine wpList_append_P (.tmp 35) (.tmp 37) rfl 52 rfl slChg rfl HNB.out HR0.out rfl HXY.out (by omega) (by unfold maxLen; omega) hzb ?_
                 intro v5 w5 hn5 hb5
                 have hf5 := hn5.form
                 rw [show (outK x (l.take k) ++ [x]).length = (outK x (l.take k)).length + 1 by simp] at hf5
                 obtain ⟨a5, c5, rfl, -⟩ := hf5
                 have hw5 := (HWB.out.mono hwz).trans hb5
                 clear d0 d1 d2 d3 d4 d5 d6 x0 x1 x2 x3 x4 x5 x6
                 obtain ⟨d0, d1, d2, d3, d4, d5, d6⟩ := HD7.out w5 hw5
                 have HN5 := Lib.hid hn5
                 have HDY5 := Lib.hid (HDZ.out w5 _ hw5 hn5)
                 have HBB5 := Lib.hid (HBB.out.trans hb5)
                 have hzb5 : w0.heap.size ≤ w5.heap.size := Nat.le_trans hzb hb5.size
                 have hl5 : (outK x (l.take k) ++ [x]).length ≤ 2 * k + 2 := by rw [List.length_append]; show _ + 1 ≤ _; omega
                 clear hn5 hb5 hw5)
              | (at_builtin
                 refine wpList_append_P (.tmp 39) (.tmp 44) rfl 52 rfl slChg rfl HN5.out HR0.out rfl HDY5.out (by omega) (by unfold maxLen; omega) hzb5 ?_
                 intro v6 w6 hn6 hb6
                 obtain ⟨a6, c6, rfl, -⟩ := hn6.form
                 have HN6 := Lib.hid hn6
                 have HBB6 := Lib.hid (HBB5.out.trans hb6)
                 clear hn6 hb6))
            go_roundg (l.length - (k + 1))
            case measure => omega
            case rel => exact ⟨k + 1, by omega, by go_num, by rw [HM3.out], by rw [HM2.out]; have h := HN6.out; simp only [List.length_append, List.length_cons, List.length_nil] at h ⊢; exact h, HBB6⟩
          | true =>
            obtain ⟨m2, m3⟩ := HLE.out (by simpa using HKE.out) (by simpa using HQ.out) (by trivial)
            have HM2 := Lib.hid m2
            have HM3 := Lib.hid m3
            clear m2 m3
            go_wp2_with (first
              | (go_quiet (fail)
                 have hwb := bl_trans hwa (bl_drewN (Below.refl wa.heap.size wa) nq)
                 generalize wa.drewN nq = wb at hwb ⊢
                 clear d0 x0
                 obtain ⟨d0, d1, d2, d3, d4, d5, d6⟩ := HD7.out wb (hwb.mono hwz)
                 obtain ⟨x0, x1, x2, x3, x4, x5, x6⟩ := HX7.out wb (hwb.mono hwz)
                 have HNB := Lib.hid (HN.out.below hwb)
                 have HDY := Lib.hid (HDO.out wb _ (hwb.mono hwz) HNB.out)
                 have hzb : w0.heap.size ≤ wb.heap.size := by have := hwb.size; omega
                 have HBB := Lib.hid (bl_trans HBW.out hwb)
                 have HWB := Lib.hid hwb
                 clear hwb hwa)
              | (at_builtin
                 refine wpList_append_P (.tmp 39) (.tmp 44) rfl 52 rfl slChg rfl HNB.out HR0.out rfl HDY.out (by omega) (by unfold maxLen; omega) hzb ?_
                 intro v5 w5 hn5 hb5
                 obtain ⟨a5, c5, rfl, -⟩ := hn5.form
                 have HN5 := Lib.hid hn5
                 have HB5 := Lib.hid hb5
                 clear hn5 hb5))
            go_roundg (l.length - (k + 1))
            case measure => omega
            case rel => exact ⟨k + 1, by omega, by go_num, by rw [HM3.out], by rw [HM2.out]; have h := HN5.out; rw [List.length_append] at h; exact h, Lib.hid (HBB.out.trans HB5.out)⟩
    · have hkd : decide ((k : Int) < (l.length : Int)) = false := by simp; omega
      rw [show l.take k = l from List.take_of_length_le (by omega)] at HN hol ⊢
      have HR0 := Lib.hid (show ∀ q, w0.heap.size ≤ q → R q from fun q hq => HRR.out q (by omega))
      have HPL := Lib.hid (put_last (x := x) HS.out)
      have hzb : w0.heap.size ≤ wr.heap.size := HBW.out.size
      obtain ⟨f, hf⟩ : ∃ f, inK x l = f := ⟨_, rfl⟩
      rw [hf] at HPL ⊢
      cases f with
      | true =>
        go_wp2
        go_ret
        exact ⟨⟨_, rfl, by rw [HPL.out, if_pos (by trivial)]; exact HN.out.sl HR0.out⟩, HWW.out⟩
      | false =>
        have HXY := Lib.hid (show (tChg eL).is (fun q => R q ∧ q < wr.heap.size ∧ some q ≠ (Value.slice aO (outK x l).length cO).ownBlock) wr (cCells x (.slice xa x.ls.length xc)) x from tChg_mk HX.out (HV.out.keep (fun q hq => ⟨hq.1, by omega, fun e => by have := (OwnS.own_lt HN.out q e.symm).1; omega⟩) (fun q hq => HWW.out.block q hq.2)))
        go_wp2_with ((at_builtin
                      refine wpList_append_P (.tmp 48) (.tmp 50) rfl 52 rfl slChg rfl HN.out HR0.out rfl HXY.out (by omega) (by unfold maxLen; omega) hzb ?_
                      intro v5 w5 hn5 hb5
                      obtain ⟨a5, c5, rfl, -⟩ := hn5.form
                      have HN5 := Lib.hid hn5
                      have HB5 := Lib.hid hb5
                      clear hn5 hb5))
        go_ret
        exact ⟨⟨_, rfl, by rw [HPL.out, if_neg (by simp)]; have h := HN5.out.sl HR0.out; rw [List.length_append] at h; exact h⟩, HWW.out.trans (HB5.out.mono (by omega))⟩
end Go.Proofs.YtifcelebfagjbaaGreatDoor
