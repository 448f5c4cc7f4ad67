/-
  Layer 44 (recon): the walk of the reference's Reconcile.
-/
import Derived.Test.YtmjbbpappigngaaGreatMgL
import Derived.Test.YtmjbbpappigngaaGreatRecoQ
import Derived.Test.YtmjbbpappigngaaGreatMgI
import Derived.Test.YtmjbbpappigngaaGreatExcSendR
namespace Go.Proofs.YtmjbbpappigngaaGreat
open Go.RowKit Go.Tw Go.Tw.Exc
theorem set4_ne {w : World} {b k : Nat} {x0 x1 x2 x3 : Value} (h : k ≠ b) : ((((w.setCell ⟨b, 0, none⟩ x0).setCell ⟨b, 1, none⟩ x1).setCell ⟨b, 2, none⟩ x2).setCell ⟨b, 3, none⟩ x3).heap[k]? = w.heap[k]? :=
  (Below.heap_setCell _ _ _ _ h).trans ((Below.heap_setCell _ _ _ _ h).trans ((Below.heap_setCell _ _ _ _ h).trans (Below.heap_setCell _ _ _ _ h)))
theorem fixR_end {n c b13 b14 : Nat} {w7 w9 wf : World} {xp : Par} {p1 p2 p3 f0 f1 f2 f3 : Value} {a0 a1 a2 a3 a4 a5 : Value} {t : TypeId} {Sq : Nat → Prop} (hW : Below w7.heap.size w7 wf) (h13 : w7.heap.size ≤ b13) (h14 : w7.heap.size ≤ b14) (hne : b13 ≠ b14)
    (m13 : wf.heap[b13]? = some (.cells #[a0, a1, a2, a3, a4, a5] t (0, 0))) (hq : ParOk Sq w9 xp p1 p2 p3) (hSq : ∀ k, Sq k → MB n c w9 k ∧ k ≠ b13 ∧ k ≠ b14) (hC : Below w9.heap.size w9 wf) :
    (((((((((((wf.setCell ⟨b13, 0, none⟩ (.string xp.nm)).setCell ⟨b13, 1, none⟩ (.int .i64 xp.out)).setCell ⟨b13, 2, none⟩ (.int .i64 xp.inn)).setCell ⟨b13, 3, none⟩ p1).setCell ⟨b13, 4, none⟩ p2).setCell ⟨b13, 5, none⟩ p3).setCell ⟨b14, 0, none⟩ f0).setCell ⟨b14, 1, none⟩ f1).setCell ⟨b14, 2, none⟩ f2).setCell ⟨b14, 3, none⟩ f3)).heap[b13]? = some (.cells #[.string xp.nm, .int .i64 xp.out, .int .i64 xp.inn, p1, p2, p3] t (0, 0)) ∧
    Below w7.heap.size w7 ((((((((((wf.setCell ⟨b13, 0, none⟩ (.string xp.nm)).setCell ⟨b13, 1, none⟩ (.int .i64 xp.out)).setCell ⟨b13, 2, none⟩ (.int .i64 xp.inn)).setCell ⟨b13, 3, none⟩ p1).setCell ⟨b13, 4, none⟩ p2).setCell ⟨b13, 5, none⟩ p3).setCell ⟨b14, 0, none⟩ f0).setCell ⟨b14, 1, none⟩ f1).setCell ⟨b14, 2, none⟩ f2).setCell ⟨b14, 3, none⟩ f3) ∧
    ParOk (MB n c ((((((((((wf.setCell ⟨b13, 0, none⟩ (.string xp.nm)).setCell ⟨b13, 1, none⟩ (.int .i64 xp.out)).setCell ⟨b13, 2, none⟩ (.int .i64 xp.inn)).setCell ⟨b13, 3, none⟩ p1).setCell ⟨b13, 4, none⟩ p2).setCell ⟨b13, 5, none⟩ p3).setCell ⟨b14, 0, none⟩ f0).setCell ⟨b14, 1, none⟩ f1).setCell ⟨b14, 2, none⟩ f2).setCell ⟨b14, 3, none⟩ f3))
      ((((((((((wf.setCell ⟨b13, 0, none⟩ (.string xp.nm)).setCell ⟨b13, 1, none⟩ (.int .i64 xp.out)).setCell ⟨b13, 2, none⟩ (.int .i64 xp.inn)).setCell ⟨b13, 3, none⟩ p1).setCell ⟨b13, 4, none⟩ p2).setCell ⟨b13, 5, none⟩ p3).setCell ⟨b14, 0, none⟩ f0).setCell ⟨b14, 1, none⟩ f1).setCell ⟨b14, 2, none⟩ f2).setCell ⟨b14, 3, none⟩ f3) xp p1 p2 p3 := by
  refine ⟨(set4_ne hne).trans (set6_same m13), bl_set (bl_set (bl_set (bl_set (bl_set6 hW h13) _ h14) _ h14) _ h14) _ h14, hq.keep (fun k hk => MB.up (by simpa using hC.size) k (hSq k hk).1) (fun k hk => ?_)⟩
  obtain ⟨h1, h2, h3⟩ := hSq k hk
  exact (set4_ne h3).trans ((set6_ne h2).trans (hC.block k h1.1))
theorem Z1 {α : Type} {a b : α} {l : List α} {n : Nat} : (a :: l).set (n + 1) b = a :: l.set n b := List.set_cons_succ
theorem Z2 {α : Type} {a b : α} {l : List α} : (a :: l).set 0 b = b :: l := List.set_cons_zero
/- the partners that came in go back, with an error: $1 the boxes (RB), $2 the error, $3 the equation -/
set_option maxRecDepth 100000 in
set_option maxHeartbeats 16000000 in
theorem reconcileR_gen (k n m : Nat) (a b : Par) (a1 a2 a3 b1 b2 b3 : Value) (w : World) (ha : ParOk (· < w.heap.size) w a a1 a2 a3) (hb : ParOk (· < w.heap.size) w b b1 b2 b3) (hsa : SzP k n m a) (hsb : SzP k n m b) (hk : k ≤ 48) (hn : n ≤ 58) (hm : m ≤ 58) :
    Calls Tryz.prog 12 #[.agg #[.string a.nm, .int .i64 a.out, .int .i64 a.inn, a1, a2, a3], .agg #[.string b.nm, .int .i64 b.out, .int .i64 b.inn, b1, b2, b3]] w
      fun e w' => RV4 w' e (reconC a b) ∧ Below w.heap.size w w' := by
  have HA := Lib.hid ha
  have HB := Lib.hid hb
  have HSA := Lib.hid hsa
  have HSB := Lib.hid hsb
  have HZR := Lib.hid (hsa.round hsb [])
  obtain ⟨x1, y1, _, _, rfl, -⟩ := id ha.wt
  obtain ⟨x2, y2, _, _, rfl, -⟩ := id ha.ours
  obtain ⟨x3, y3, _, _, rfl, -⟩ := id ha.thr
  obtain ⟨z1, e1, _, _, rfl, -⟩ := id hb.wt
  obtain ⟨z2, e2, _, _, rfl, -⟩ := id hb.ours
  obtain ⟨z3, e3, _, _, rfl, -⟩ := id hb.thr
  have HNM := Lib.hid (And.intro ha.nm hb.nm)
  clear ha hb hsa hsb
  go_enter Tryz.func12, Tryz.ntmps12
  go_wp2_with (fail)
  have HB0 := Lib.hid (show Below w.heap.size w ((((w.alloc (.cells #[.string a.nm, .int .i64 a.out, .int .i64 a.inn, .slice x1 a.wt.length y1, .slice x2 a.ours.length y2, .slice x3 a.thr.length y3] 29)).alloc (.cells #[.string b.nm, .int .i64 b.out, .int .i64 b.inn, .slice z1 b.wt.length e1, .slice z2 b.ours.length e2, .slice z3 b.thr.length e3] 29)).alloc (.cells #[.string ⟨#[]⟩, .int .i64 0, .int .i64 0, .slice none 0 0, .slice none 0 0, .slice none 0 0] 29)).alloc (.cells #[.string ⟨#[]⟩, .int .i64 0, .int .i64 0, .slice none 0 0, .slice none 0 0, .slice none 0 0] 29)) from bl_alloc (bl_alloc (bl_alloc (bl_alloc (Below.refl _ _) _) _) _) _)
  refine (roundR_gen (· < w.heap.size) k n m a b [] _ _ _ _ _ _ (.slice none 0 0) _ (HA.out.keep (fun _ h => h) (fun k hk => HB0.out.block k hk)) (HB.out.keep (fun _ h => h) (fun k hk => HB0.out.block k hk)) (fun k hk => Nat.lt_of_lt_of_le hk HB0.out.size) SlIs.nil HSA.out HSB.out (by omega) (by omega)).mono ?_
  rintro e w5 ⟨he, hb5⟩
  obtain ⟨u1, c1, u2, c2, u3, c3, g1, h1, g2, h2, g3, h3, rfl, hq1, hq2⟩ := rv_form he
  obtain ⟨x, y, er, hr⟩ : ∃ x y er, roundC a b [] = (x, y, er) := ⟨_, _, _, rfl⟩
  rw [hr] at hq1 hq2 HZR ⊢
  dsimp only at hq1 hq2 ⊢
  have HRE := Lib.hid hr
  have hz5 : w.heap.size + 4 ≤ w5.heap.size := by have := hb5.size; simpa using this
  have HRB := Lib.hid (show RB w a b (.slice x1 a.wt.length y1) (.slice x2 a.ours.length y2) (.slice x3 a.thr.length y3) (.slice z1 b.wt.length e1) (.slice z2 b.ours.length e2) (.slice z3 b.thr.length e3) w5 from
    ⟨bl_trans HB0.out hb5, Go.Tw.Below.at_old hb5 (alloc4_0 w _ _ _ _), Go.Tw.Below.at_old hb5 (alloc4_1 w _ _ _ _), Go.Tw.Below.at_old hb5 (alloc4_2 w _ _ _ _), Go.Tw.Below.at_old hb5 (alloc4_3 w _ _ _ _)⟩)
  obtain ⟨wq, hwq⟩ : ∃ wq, (w5.alloc (.cells #[.string x.nm, .int .i64 x.out, .int .i64 x.inn, .slice u1 x.wt.length c1, .slice u2 x.ours.length c2, .slice u3 x.thr.length c3] 29)).alloc (.cells #[.string y.nm, .int .i64 y.out, .int .i64 y.inn, .slice g1 y.wt.length h1, .slice g2 y.ours.length h2, .slice g3 y.thr.length h3] 29) = wq := ⟨_, rfl⟩
  obtain ⟨b8, hb8⟩ : ∃ k, w5.heap.size = k := ⟨_, rfl⟩
  have HKB := Lib.hid (show KB w a b x y (.slice x1 a.wt.length y1) (.slice x2 a.ours.length y2) (.slice x3 a.thr.length y3) (.slice z1 b.wt.length e1) (.slice z2 b.ours.length e2) (.slice z3 b.thr.length e3) (.slice u1 x.wt.length c1) (.slice u2 x.ours.length c2) (.slice u3 x.thr.length c3) (.slice g1 y.wt.length h1) (.slice g2 y.ours.length h2) (.slice g3 y.thr.length h3) b8 wq from by
    have hbq : Below w5.heap.size w5 wq := by rw [← hwq]; exact bl_alloc (bl_alloc (Below.refl _ _) _) _
    have hsz : wq.heap.size = b8 + 2 := by rw [← hwq, ← hb8]; simp
    have hkk : ∀ k, SN (· < w.heap.size) (w.heap.size + 4) w5.heap.size k → MB w.heap.size b8 wq k := fun k hk => by
      rcases hk with hk | hk
      · exact ⟨by omega, .inl hk, by omega, by omega⟩
      · exact ⟨by omega, .inr hk.1, by omega, by omega⟩
    have hq1' := hq1.keep (S' := SN (· < w.heap.size) (w.heap.size + 4) w5.heap.size) (fun k hk => by
      rcases hk with hk | hk
      · exact .inl hk
      · exact .inr ⟨by have := hk.1; simpa using this, hk.2⟩) (SameOn.refl _ _)
    have hq2' := hq2.keep (S' := SN (· < w.heap.size) (w.heap.size + 4) w5.heap.size) (fun k hk => by
      rcases hk with hk | hk
      · exact .inl hk
      · exact .inr ⟨by have := hk.1; simpa using this, hk.2⟩) (SameOn.refl _ _)
    refine ⟨HRB.out.step hbq, by rw [← hwq, ← hb8]; exact alloc2_0 w5 _ _, by rw [← hwq, ← hb8]; exact alloc2_1 w5 _ _, hq1'.keep hkk (fun k hk => hbq.block k ?_), hq2'.keep hkk (fun k hk => hbq.block k ?_)⟩
    · rcases hk with hk | hk
      · omega
      · exact hk.2
    · rcases hk with hk | hk
      · omega
      · exact hk.2)
  clear hq1 hq2 he hr hb5 HRB HB0
  by_cases q1 : er ≠ 0
  · have q1' : (er != 0) = true := by simpa using q1
    have HR := Lib.hid (show reconC a b = (a, b, 0, er) from by unfold reconC rec1; rw [HRE.out, if_pos q1])
    clear q1
    go_upto_region 3 with (fail)
    (try rw [hwq])
    have HRB := Lib.hid HKB.out.rb
    clear hwq HKB
    have hne1 : w.heap.size ≠ w.heap.size + 1 + 1 ∧ w.heap.size ≠ w.heap.size + 1 + 1 + 1 := by omega
    have hne2 : w.heap.size + 1 ≠ w.heap.size + 1 + 1 ∧ w.heap.size + 1 ≠ w.heap.size + 1 + 1 + 1 := by omega
    have HXA := Lib.hid (box6X HRB.out.pa hne1.1 hne1.2)
    have HXB := Lib.hid (box6X HRB.out.pb hne2.1 hne2.2)
    clear hne1 hne2
    refine wp_region_D (fun j => if j < 7 then 0 else if j < 7 then 1 else 2) (fun w' => KeepX (w.heap.size + 1 + 1) (w.heap.size + 1 + 1 + 1) _ w') (by kernel_rfl) (KeepX.drew (KeepX.refl _ _ _)) (fun hHeld => ?_)
    refine wpD_take (i := 0) (v := ?_) rfl (by kernel_rfl) (fun _ _ _ h => h) (Or.inl ⟨by kernel_rfl, ?_⟩) (by assumption) ?_
    rotate_left
    focus (intro w9 hS9; obtain ⟨z0, z1, z2, z3, z4, z5⟩ := HXA.out w9 hS9; clear hS9; go_simp; (try with_reducible rfl))
    (try simp only [Act.put])
    (try simp only [List.setIfInBounds_toArray])
    (repeat (first | simp only [Z1] | simp only [Z2]))
    refine wpD_take (i := 1) (v := ?_) rfl (by kernel_rfl) (fun _ _ _ h => h) (Or.inl ⟨by kernel_rfl, ?_⟩) (by assumption) ?_
    rotate_left
    focus (intro w9 hS9; obtain ⟨z0, z1, z2, z3, z4, z5⟩ := HXB.out w9 hS9; clear hS9; go_simp; (try with_reducible rfl))
    (try simp only [Act.put])
    (try simp only [List.setIfInBounds_toArray])
    (repeat (first | simp only [Z1] | simp only [Z2]))
    refine wpD_take (i := 2) (v := ?_) rfl (by kernel_rfl) (fun _ _ _ h => h) (Or.inl ⟨by kernel_rfl, ?_⟩) (by assumption) ?_
    rotate_left
    focus (intro w9 hS9; (try dsimp only at hS9); go_simp; (try with_reducible rfl))
    (try simp only [Act.put])
    (try simp only [List.setIfInBounds_toArray])
    (repeat (first | simp only [Z1] | simp only [Z2]))
    obtain ⟨s0, s1, s2, s3, s4, s5, sf⟩ := blk6' HRB.out.ra
    obtain ⟨t0, t1, t2, t3, t4, t5, tf⟩ := blk6' HRB.out.rb
    refine wpD_ready (rs := [3]) (by kernel_rfl) (by kernel_rfl) ?_
    refine AllReadyD.cons rfl (fun K hK => ?_) AllReadyD.nil
    rw [if_pos (show _ = true by kernel_rfl)]
    go_simp
    clear hHeld
    refine hK.out _ _ ⟨fun _ => (by with_reducible exact KeepX.drew (KeepX.set6 (KeepX.refl _ _ _) (.inl rfl))), fun h => absurd h (by decide)⟩ (fun hHeld0 => ?_)
    have hHeld := hHeld0.1 rfl
    clear hHeld0 hK K
    refine wpD_ready (rs := [4]) (by kernel_rfl) (by kernel_rfl) ?_
    refine AllReadyD.cons rfl (fun K hK => ?_) AllReadyD.nil
    rw [if_pos (show _ = true by kernel_rfl)]
    go_simp
    clear hHeld
    refine hK.out _ _ ⟨fun _ => (by with_reducible exact KeepX.drew (KeepX.set6 (KeepX.set6 (KeepX.refl _ _ _) (.inl rfl)) (.inr rfl))), fun h => absurd h (by decide)⟩ (fun hHeld0 => ?_)
    have hHeld := hHeld0.1 rfl
    clear hHeld0 hK K
    refine wpD_ready (rs := [5]) (by kernel_rfl) (by kernel_rfl) ?_
    refine AllReadyD.cons rfl (fun K hK => ?_) AllReadyD.nil
    rw [if_pos (show _ = true by kernel_rfl)]
    go_simp
    clear hHeld
    refine hK.out _ _ ⟨fun _ => (by with_reducible exact KeepX.drew (KeepX.set6 (KeepX.set6 (KeepX.refl _ _ _) (.inl rfl)) (.inr rfl))), fun h => absurd h (by decide)⟩ (fun hHeld0 => ?_)
    have hHeld := hHeld0.1 rfl
    clear hHeld0 hK K
    refine wpD_ready (rs := [6]) (by kernel_rfl) (by kernel_rfl) ?_
    refine AllReadyD.cons rfl (fun K hK => ?_) AllReadyD.nil
    rw [if_pos (show _ = true by kernel_rfl)]
    go_simp
    clear hHeld
    refine hK.out _ _ ⟨fun _ => (by with_reducible exact KeepX.drew (KeepX.set6 (KeepX.set6 (KeepX.refl _ _ _) (.inl rfl)) (.inr rfl))), fun h => absurd h (by decide)⟩ (fun hHeld0 => ?_)
    have hHeld := hHeld0.1 rfl
    clear hHeld0 hK K
    refine wpD_done (by kernel_rfl) ?_
    go_wp2_with (fail)
    have h2 : w.heap.size ≤ w.heap.size + 1 + 1 := by omega
    have h3 : w.heap.size ≤ w.heap.size + 1 + 1 + 1 := by omega
    refine bodyPost_ret (v := .tuple #[.agg #[.string a.nm, .int .i64 a.out, .int .i64 a.inn, .slice x1 a.wt.length y1, .slice x2 a.ours.length y2, .slice x3 a.thr.length y3], .agg #[.string b.nm, .int .i64 b.out, .int .i64 b.inn, .slice z1 b.wt.length e1, .slice z2 b.ours.length e2, .slice z3 b.thr.length e3], .int .i64 0, .int .i64 er])
      (by simp [results, Tryz.results12, go_sem, s0, s1, s2, s3, s4, s5, t0, t1, t2, t3, t4, t5]) rfl ?_
    refine And.intro ?_ ?_
    · refine rv4_mk HR.out ?_ ?_
      · refine HA.out.keep (fun k hk => ?_) (fun k hk => ?_)
        · refine Nat.lt_of_lt_of_le hk (Below.size (B := w.heap.size) (w := w) ?_)
          with_reducible exact Below.drew (bl_set6 (bl_set6 HRB.out.bel h2) h3)
        · refine KeepX.at (w := _) (x := w.heap.size + 1 + 1) (y := w.heap.size + 1 + 1 + 1) ?_ HRB.out.bel hk h2 h3
          with_reducible exact KeepX.drew (KeepX.set6 (KeepX.set6 (KeepX.refl _ _ _) (.inl rfl)) (.inr rfl))
      · refine HB.out.keep (fun k hk => ?_) (fun k hk => ?_)
        · refine Nat.lt_of_lt_of_le hk (Below.size (B := w.heap.size) (w := w) ?_)
          with_reducible exact Below.drew (bl_set6 (bl_set6 HRB.out.bel h2) h3)
        · refine KeepX.at (w := _) (x := w.heap.size + 1 + 1) (y := w.heap.size + 1 + 1 + 1) ?_ HRB.out.bel hk h2 h3
          with_reducible exact KeepX.drew (KeepX.set6 (KeepX.set6 (KeepX.refl _ _ _) (.inl rfl)) (.inr rfl))
    · with_reducible exact Below.drew (bl_set6 (bl_set6 HRB.out.bel h2) h3)
  · obtain rfl : er = 0 := by omega
    have q1' : ((0 : Int) != 0) = false := by decide
    clear q1
    have HZX := Lib.hid (show SzP k n (m + k) x from HZR.out.1)
    have HZY := Lib.hid (show SzP k n (m + k) y from HZR.out.2)
    obtain ⟨L1, hL1⟩ : ∃ L, differC x.ours y.thr = L := ⟨_, rfl⟩
    obtain ⟨L2, hL2⟩ : ∃ L, differC y.ours x.thr = L := ⟨_, rfl⟩
    have hc8 : w.heap.size + 4 ≤ b8 := by omega
    have hl1 : L1.length ≤ 164 := by have := differ_length x.ours y.thr; rw [hL1] at this; have h1 := HZX.out.ours; have h2 := HZY.out.thr; omega
    have hl2 : L2.length ≤ 164 := by have := differ_length y.ours x.thr; rw [hL2] at this; have h1 := HZY.out.ours; have h2 := HZX.out.thr; omega
    have HRC := Lib.hid (show reconC a b = rec2 a b ((L1.length : Int) + (L2.length : Int)) (fixC x b.nm L1) (fixC y a.nm L2) from by
      unfold reconC rec1
      rw [HRE.out, if_neg (by simp)]
      show rec2 a b (((differC x.ours y.thr).length : Int) + ((differC y.ours x.thr).length : Int)) (fixC x b.nm (differC x.ours y.thr)) (fixC y a.nm (differC y.ours x.thr)) = _
      rw [hL1, hL2])
    have hall : ∀ k, MB w.heap.size b8 wq k → k < wq.heap.size := fun k hk => hk.1
    have HD1 := Lib.hid (show ∀ W', Below wq.heap.size wq W' → Calls Tryz.prog 33 #[.agg #[.string x.nm, .int .i64 x.out, .int .i64 x.inn, .slice u1 x.wt.length c1, .slice u2 x.ours.length c2, .slice u3 x.thr.length c3], .agg #[.string y.nm, .int .i64 y.out, .int .i64 y.inn, .slice g1 y.wt.length h1, .slice g2 y.ours.length h2, .slice g3 y.thr.length h3]] W'
        fun e w' => (∃ v', e = .returned v' ∧ OwnSl tDif 63 W'.heap.size w' v' L1) ∧ Below W'.heap.size W' w' from fun W' hW => by
      rw [← hL1]
      exact differR_any x y _ _ _ _ _ _ W' ((HKB.out.ox.keep hall (SameOn.refl _ _)).step hW) ((HKB.out.oy.keep hall (SameOn.refl _ _)).step hW) (HZX.out.so (by omega)) (HZY.out.st (by omega)))
    have HD2 := Lib.hid (show ∀ W', Below wq.heap.size wq W' → Calls Tryz.prog 33 #[.agg #[.string y.nm, .int .i64 y.out, .int .i64 y.inn, .slice g1 y.wt.length h1, .slice g2 y.ours.length h2, .slice g3 y.thr.length h3], .agg #[.string x.nm, .int .i64 x.out, .int .i64 x.inn, .slice u1 x.wt.length c1, .slice u2 x.ours.length c2, .slice u3 x.thr.length c3]] W'
        fun e w' => (∃ v', e = .returned v' ∧ OwnSl tDif 63 W'.heap.size w' v' L2) ∧ Below W'.heap.size W' w' from fun W' hW => by
      rw [← hL2]
      exact differR_any y x _ _ _ _ _ _ W' ((HKB.out.oy.keep hall (SameOn.refl _ _)).step hW) ((HKB.out.ox.keep hall (SameOn.refl _ _)).step hW) (HZY.out.so (by omega)) (HZX.out.st (by omega)))
    clear hL1 hL2 hall HZR
    (try rw [hwq])
    go_upto_region 4 with (fail)
    (try rw [hwq])
    clear hwq hb8
    have hny : y.nm = b.nm := by have := (round_nm a b []).2; rw [HRE.out] at this; exact this
    have hnx : x.nm = a.nm := by have := (round_nm a b []).1; rw [HRE.out] at this; exact this
    have HNY := Lib.hid hny
    have HNX := Lib.hid hnx
    clear hny hnx HRE
    obtain ⟨s0, s1, s2, s3, s4, s5, sf⟩ := blk6' HKB.out.px
    obtain ⟨t0, t1, t2, t3, t4, t5, tf⟩ := blk6' HKB.out.py
    go_wp2_with (fail)
    refine (HD1.out wq (Below.refl _ _)).mono ?_
    rintro e w6 ⟨⟨v9, rfl, ho9⟩, hb6⟩
    obtain ⟨d1, k1, rfl, -, -⟩ := ho9.form
    have HO1 := Lib.hid ho9
    have HB6 := Lib.hid hb6
    have hw6q := hb6.size
    have HK6 := Lib.hid (HKB.out.step hb6)
    clear ho9 hb6 s0 s1 s2 s3 s4 s5 sf t0 t1 t2 t3 t4 t5 tf
    obtain ⟨s0, s1, s2, s3, s4, s5, sf⟩ := blk6' HK6.out.px
    obtain ⟨t0, t1, t2, t3, t4, t5, tf⟩ := blk6' HK6.out.py
    go_wp2_with (fail)
    refine (HD2.out w6 HB6.out).mono ?_
    rintro e w7 ⟨⟨v9, rfl, ho9⟩, hb7⟩
    obtain ⟨d2, k2, rfl, -, -⟩ := ho9.form
    have hbq := HKB.out.lt
    have HK7 := Lib.hid (HK6.out.step hb7)
    have HE1 := Lib.hid (show SlIs tDif (· < w7.heap.size) w7 (.slice d1 L1.length k1) L1 from (HO1.out.below hb7).sl)
    have HE2 := Lib.hid (show SlIs tDif (MB w.heap.size b8 w7) w7 (.slice d2 L2.length k2) L2 from (ho9.fresh flatDif).keep (fun k hk => by
      have h1 : w6.heap.size ≤ k := hk.1
      exact ⟨hk.2, .inr (by omega), by omega, by omega⟩) (SameOn.refl _ _))
    clear ho9 hb7 HO1 HB6 HK6 HD1 HD2 HKB s0 s1 s2 s3 s4 s5 sf t0 t1 t2 t3 t4 t5 tf hbq
    have hx8 : ∀ k, MB w.heap.size b8 w7 k → k < w7.heap.size := fun k hk => hk.1
    go_upto_if 39 with (fail)
    go_cut [10] (fun v10 wx => ∃ (x' : Par) (p1 p2 p3 : Option Addr) (s1 s2 s3 : Nat), v10 = .int .i64 0 ∧ fixC x b.nm L1 = (x', 0) ∧ KB w a b x' y (.slice x1 a.wt.length y1) (.slice x2 a.ours.length y2) (.slice x3 a.thr.length y3) (.slice z1 b.wt.length e1) (.slice z2 b.ours.length e2) (.slice z3 b.thr.length e3) (.slice p1 x'.wt.length s1) (.slice p2 x'.ours.length s2) (.slice p3 x'.thr.length s3) (.slice g1 y.wt.length h1) (.slice g2 y.ours.length h2) (.slice g3 y.thr.length h3) b8 wx ∧ SlIs tDif (MB w.heap.size b8 wx) wx (.slice d2 L2.length k2) L2)
    case first =>
      by_cases q2 : L1.length = 0
      · have q2' : ¬ (0 : Int) < (L1.length : Int) := by omega
        have HF := Lib.hid (show fixC x b.nm L1 = (x, 0) from by unfold fixC; rw [if_pos q2])
        clear q2
        go_wp2_with (fail)
        go_meet
        exact ⟨x, _, _, _, _, _, _, rfl, HF.out, HK7.out, HE2.out⟩
      · have q2' : (0 : Int) < (L1.length : Int) := by omega
        obtain ⟨xp, fp, er2, hse⟩ : ∃ xp fp er2, sendC x b.nm (correctC L1) = (xp, fp, er2) := ⟨_, _, _, rfl⟩
        have HF := Lib.hid (show fixC x b.nm L1 = (xp, er2) from by unfold fixC; rw [if_neg q2, hse])
        have HX8 := Lib.hid (box6D HK7.out.px)
        have HXB := Lib.hid (box6D HK7.out.py)
        have HCC := Lib.hid (show ∀ W', Below w7.heap.size w7 W' → Calls Tryz.prog 34 #[.slice d1 L1.length k1] W' fun e w' => (∃ v', e = .returned v' ∧ OwnSl tRec 49 W'.heap.size w' v' (correctC L1)) ∧ Below W'.heap.size W' w' from fun W' hW => correctR_any L1 _ W' (HE1.out.step hW) (by omega))
        have HSD := Lib.hid (show ∀ W' vc, Below w7.heap.size w7 W' → SlIs tRec (· < W'.heap.size) W' vc (correctC L1) → Calls Tryz.prog 25 #[.agg #[.string x.nm, .int .i64 x.out, .int .i64 x.inn, .slice u1 x.wt.length c1, .slice u2 x.ours.length c2, .slice u3 x.thr.length c3], .string y.nm, vc] W'
            fun e w' => (∃ p1 s1 p2 s2 p3 s3 av cv, e = .returned (.tuple #[.agg #[.string xp.nm, .int .i64 xp.out, .int .i64 xp.inn, .slice p1 xp.wt.length s1, .slice p2 xp.ours.length s2, .slice p3 xp.thr.length s3], .agg #[.string fp.fr, .string fp.to, .int .i64 fp.sq, .slice av fp.rs.length cv], .int .i64 er2]) ∧
              ParOk (fun k => MB w.heap.size b8 w7 k ∨ (W'.heap.size ≤ k ∧ k < w'.heap.size)) w' xp (.slice p1 xp.wt.length s1) (.slice p2 xp.ours.length s2) (.slice p3 xp.thr.length s3)) ∧ Below W'.heap.size W' w' from fun W' vc hW hvc => by
          rw [HNY.out]
          refine (sendR_gen (MB w.heap.size b8 w7) x b.nm (correctC L1) _ _ _ vc W' (HK7.out.ox.keep (fun _ h => h) (fun k hk => hW.block k hk.1)) (fun k hk => Nat.lt_of_lt_of_le hk.1 hW.size) (HZX.out.small (by omega) (by omega) (by omega)) HNM.out.2 hvc (by have := correct_len L1; omega)).mono ?_
          rintro e w' ⟨he, hb'⟩
          obtain ⟨p1, s1, p2, s2, p3, s3, av, cv, rfl, hq⟩ := he.formR
          rw [hse] at hq ⊢
          exact ⟨⟨p1, s1, p2, s2, p3, s3, av, cv, rfl, hq⟩, hb'⟩)
        have HW := Lib.hid (Below.refl w7.heap.size w7)
        clear q2 hse
        go_upto_region 7 with (fail)
        go_cut [13, 15] (fun v13 v15 wx => ∃ (b13 : Nat) (p1 : Option Addr) (s1 : Nat) (p2 : Option Addr) (s2 : Nat) (p3 : Option Addr) (s3 : Nat), v13 = .pointer (some ⟨b13, 0, none⟩) ∧ v15 = .int .i64 er2 ∧ wx.heap[b13]? = some (.cells #[.string xp.nm, .int .i64 xp.out, .int .i64 xp.inn, .slice p1 xp.wt.length s1, .slice p2 xp.ours.length s2, .slice p3 xp.thr.length s3] 29 (0, 0)) ∧ Below w7.heap.size w7 wx ∧ ParOk (MB w.heap.size b8 wx) wx xp (.slice p1 xp.wt.length s1) (.slice p2 xp.ours.length s2) (.slice p3 xp.thr.length s3))
        case first =>
          clear HE1 HE2 HF
          refine wp_region_D (fun j => if j < 8 then 0 else if j < 10 then 1 else if j < 12 then 0 else 2) (fun w' => Below w7.heap.size w7 w') (by kernel_rfl) ((by (repeat (first | (with_reducible exact Below.refl _ _) | (with_reducible exact HW.out) | (with_reducible apply bl_drewN) | (with_reducible apply bl_alloc) | (with_reducible apply Below.drew))); done)) (fun hHeld => ?_)
          refine wpD_take (i := 0) (v := ?_) rfl (by kernel_rfl) (fun _ _ _ h => h) (Or.inl ⟨by kernel_rfl, ?_⟩) (by assumption) ?_
          rotate_left
          focus (intro w9 hS9; obtain ⟨z0, z1, z2, z3, z4, z5⟩ := HX8.out w9 hS9; clear hS9; go_simp; (try with_reducible rfl))
          (try simp only [Act.put])
          (try simp only [List.setIfInBounds_toArray])
          (repeat (first | simp only [Z1] | simp only [Z2]))
          refine wpD_take (i := 1) (v := ?_) rfl (by kernel_rfl) (fun _ _ _ h => h) (Or.inl ⟨by kernel_rfl, ?_⟩) (by assumption) ?_
          rotate_left
          focus (intro w9 hS9; (try dsimp only at hS9); go_simp; (try with_reducible rfl))
          (try simp only [Act.put])
          (try simp only [List.setIfInBounds_toArray])
          (repeat (first | simp only [Z1] | simp only [Z2]))
          refine wpD_take (i := 2) (v := ?_) rfl (by kernel_rfl) (fun _ _ _ h => h) (Or.inl ⟨by kernel_rfl, ?_⟩) (by assumption) ?_
          rotate_left
          focus (intro w9 hS9; obtain ⟨z0, z1, z2, z3, z4, z5⟩ := HXB.out w9 hS9; clear hS9; go_simp; (try with_reducible rfl))
          (try simp only [Act.put])
          (try simp only [List.setIfInBounds_toArray])
          (repeat (first | simp only [Z1] | simp only [Z2]))
          refine wpD_take (i := 3) (v := ?_) rfl (by kernel_rfl) (fun _ _ _ h => h) (Or.inl ⟨by kernel_rfl, ?_⟩) (by assumption) ?_
          rotate_left
          focus (intro w9 hS9; (try dsimp only at hS9); go_simp; (try with_reducible rfl))
          (try simp only [Act.put])
          (try simp only [List.setIfInBounds_toArray])
          (repeat (first | simp only [Z1] | simp only [Z2]))
          refine wpD_ready (rs := [4, 10, 11]) (by kernel_rfl) (by kernel_rfl) ?_
          refine AllReadyD.cons rfl (fun K hK => ?_) (AllReadyD.cons rfl (fun K hK => ?_) (AllReadyD.cons rfl (fun K hK => ?_) (AllReadyD.nil)))
          · rw [if_pos (show _ = true by kernel_rfl)]
            go_simp
            go_wp2_with (
              go_at_call 34
              refine (HCC.out _ (by (repeat (first | (with_reducible exact Below.refl _ _) | (with_reducible exact HW.out) | (with_reducible apply bl_drewN) | (with_reducible apply bl_alloc) | (with_reducible apply Below.drew))); done)).mono ?_
              rintro e w8 ⟨⟨vc, rfl, hvc⟩, hb9⟩
              obtain ⟨a8, c8, rfl, -, -⟩ := hvc.form
              have HVC := Lib.hid hvc.sl
              have HB8 := Lib.hid (Below.refl w8.heap.size w8)
              have HP1 := Lib.hid (show Below w7.heap.size w7 w8 from by (refine bl_trans ?_ hb9; exact (by (repeat (first | (with_reducible exact Below.refl _ _) | (with_reducible exact HW.out) | (with_reducible apply bl_drewN) | (with_reducible apply bl_alloc) | (with_reducible apply Below.drew))); done)))
              clear HW hb9 hvc
              have HW := HP1
              clear HP1)
            clear hHeld
            refine hK.out _ _ ⟨fun _ => HW.out, fun h => absurd h (by decide)⟩ (fun hHeld0 => ?_)
            have hHeld := hHeld0.1 rfl
            clear hHeld0 hK K
            refine wpD_ready (rs := [5, 10, 11]) (by kernel_rfl) (by kernel_rfl) ?_
            refine AllReadyD.cons rfl (fun K hK => ?_) (AllReadyD.cons rfl (fun K hK => ?_) (AllReadyD.cons rfl (fun K hK => ?_) (AllReadyD.nil)))
            · rw [if_pos (show _ = true by kernel_rfl)]
              go_simp
              go_wp2_with (
                go_at_call 25
                refine (HSD.out _ _ (by (repeat (first | (with_reducible exact Below.refl _ _) | (with_reducible exact HW.out) | (with_reducible apply bl_drewN) | (with_reducible apply bl_alloc) | (with_reducible apply Below.drew))); done) (HVC.out.step (show Below w8.heap.size w8 _ from by (repeat (first | (with_reducible exact HB8.out) | (with_reducible apply bl_drewN) | (with_reducible apply Below.drew)))))).mono ?_
                rintro e w9 ⟨⟨p1, s1, p2, s2, p3, s3, av, cv, rfl, hq9⟩, hb9⟩
                have hlt := HK7.out.lt
                have hW7 := HW.out.size
                have hW9 : w8.heap.size ≤ w9.heap.size := hb9.size
                have HQ9 := Lib.hid (hq9.keep (S' := fun k => MB w.heap.size b8 w9 k ∧ True ∧ True) (w' := w9) (fun k hk => by
                  rcases hk with hk | hk
                  · have h0 := hk.1
                    exact ⟨MB.up (by omega) k hk, by first | trivial | omega, by first | trivial | omega⟩
                  · have h1 : w8.heap.size ≤ k := hk.1
                    exact ⟨⟨hk.2, .inr (by omega), by omega, by omega⟩, by first | trivial | omega, by first | trivial | omega⟩) (SameOn.refl _ _))
                have HC := Lib.hid (Below.refl w9.heap.size w9)
                have HP1 := Lib.hid (show Below w7.heap.size w7 w9 from by (refine bl_trans ?_ hb9; exact (by (repeat (first | (with_reducible exact Below.refl _ _) | (with_reducible exact HW.out) | (with_reducible apply bl_drewN) | (with_reducible apply bl_alloc) | (with_reducible apply Below.drew))); done)))
                clear HW HVC HB8 hb9 hq9 hlt hW7 hW9
                have HW := HP1
                clear HP1)
              clear hHeld
              refine hK.out _ _ ⟨fun _ => HW.out, fun h => absurd h (by decide)⟩ (fun hHeld0 => ?_)
              have hHeld := hHeld0.1 rfl
              clear hHeld0 hK K
              refine wpD_take (i := 6) (v := ?_) rfl (by kernel_rfl) (fun _ _ _ h => h) (Or.inl ⟨by kernel_rfl, ?_⟩) (by assumption) ?_
              rotate_left
              focus (intro w9 hS9; (try dsimp only at hS9); go_simp; (try with_reducible rfl))
              (try simp only [Act.put])
              (try simp only [List.setIfInBounds_toArray])
              (repeat (first | simp only [Z1] | simp only [Z2]))
              refine wpD_take (i := 7) (v := ?_) rfl (by kernel_rfl) (fun _ _ _ h => h) (Or.inl ⟨by kernel_rfl, ?_⟩) (by assumption) ?_
              rotate_left
              focus (intro w9 hS9; (try dsimp only at hS9); go_simp; (try with_reducible rfl))
              (try simp only [Act.put])
              (try simp only [List.setIfInBounds_toArray])
              (repeat (first | simp only [Z1] | simp only [Z2]))
              refine wpD_pure (i := 8) (v := ?_) rfl (by kernel_rfl) (fun _ _ _ h => h) (Or.inl ⟨by kernel_rfl, ?_⟩) ?_
              rotate_left
              focus (intro w9 hS9; clear hS9; go_simp; (try with_reducible rfl))
              (try simp only [Act.put])
              (try simp only [List.setIfInBounds_toArray])
              (repeat (first | simp only [Z1] | simp only [Z2]))
              refine wpD_pure (i := 9) (v := ?_) rfl (by kernel_rfl) (fun _ _ _ h => h) (Or.inl ⟨by kernel_rfl, ?_⟩) ?_
              rotate_left
              focus (intro w9 hS9; clear hS9; go_simp; (try with_reducible rfl))
              (try simp only [Act.put])
              (try simp only [List.setIfInBounds_toArray])
              (repeat (first | simp only [Z1] | simp only [Z2]))
              refine wpD_ready (rs := [10, 11]) (by kernel_rfl) (by kernel_rfl) ?_
              refine AllReadyD.cons rfl (fun K hK => ?_) (AllReadyD.cons rfl (fun K hK => ?_) (AllReadyD.nil))
              · rw [if_pos (show _ = true by kernel_rfl)]
                go_simp
                clear hHeld
                refine hK.out _ _ ⟨fun _ => (by (repeat (first | (with_reducible exact Below.refl _ _) | (with_reducible exact HW.out) | (with_reducible apply bl_drewN) | (with_reducible apply bl_alloc) | (with_reducible apply Below.drew))); done), fun h => absurd h (by decide)⟩ (fun hHeld0 => ?_)
                have hHeld := hHeld0.1 rfl
                clear hHeld0 hK K
                have hbA : Below w7.heap.size w7 (w9.alloc (.cells #[.string ⟨#[]⟩, .int .i64 0, .int .i64 0, .slice none 0 0, .slice none 0 0, .slice none 0 0] 29)) := bl_alloc HW.out _
                have hmA := alloc1_0 w9 (.cells #[.string ⟨#[]⟩, .int .i64 0, .int .i64 0, .slice none 0 0, .slice none 0 0, .slice none 0 0] 29)
                have hl13 : w7.heap.size ≤ w9.heap.size := HW.out.size
                have h9A : Below w9.heap.size w9 (w9.alloc (.cells #[.string ⟨#[]⟩, .int .i64 0, .int .i64 0, .slice none 0 0, .slice none 0 0, .slice none 0 0] 29)) := bl_alloc HC.out _
                have hg13 : w9.heap.size ≤ w9.heap.size := HC.out.size
                obtain ⟨wp1, hwN⟩ : ∃ wN, w9.alloc (.cells #[.string ⟨#[]⟩, .int .i64 0, .int .i64 0, .slice none 0 0, .slice none 0 0, .slice none 0 0] 29) = wN := ⟨_, rfl⟩
                rw [hwN] at hbA hmA h9A hHeld ⊢
                clear hwN HW HC
                have HW := Lib.hid hbA
                have M13 := Lib.hid hmA
                have HC := Lib.hid h9A
                clear hbA hmA h9A
                refine wpD_ready (rs := [11]) (by kernel_rfl) (by kernel_rfl) ?_
                refine AllReadyD.cons rfl (fun K hK => ?_) (AllReadyD.nil)
                rw [if_pos (show _ = true by kernel_rfl)]
                go_simp
                clear hHeld
                refine hK.out _ _ ⟨fun _ => (by (repeat (first | (with_reducible exact Below.refl _ _) | (with_reducible exact HW.out) | (with_reducible apply bl_drewN) | (with_reducible apply bl_alloc) | (with_reducible apply Below.drew))); done), fun h => absurd h (by decide)⟩ (fun hHeld0 => ?_)
                have hHeld := hHeld0.1 rfl
                clear hHeld0 hK K
                have hbA : Below w7.heap.size w7 (wp1.alloc (.cells #[.string ⟨#[]⟩, .string ⟨#[]⟩, .int .i64 0, .slice none 0 0] 45)) := bl_alloc HW.out _
                have hmA := alloc1_0 wp1 (.cells #[.string ⟨#[]⟩, .string ⟨#[]⟩, .int .i64 0, .slice none 0 0] 45)
                have hl14 : w7.heap.size ≤ wp1.heap.size := HW.out.size
                have hmO := Go.Tw.Below.at_old (bl_alloc (Below.refl wp1.heap.size wp1) (.cells #[.string ⟨#[]⟩, .string ⟨#[]⟩, .int .i64 0, .slice none 0 0] 45)) M13.out
                have hnO : w9.heap.size < wp1.heap.size := lt_of_heap M13.out
                have h9A : Below w9.heap.size w9 (wp1.alloc (.cells #[.string ⟨#[]⟩, .string ⟨#[]⟩, .int .i64 0, .slice none 0 0] 45)) := bl_alloc HC.out _
                have hg14 : w9.heap.size ≤ wp1.heap.size := HC.out.size
                obtain ⟨wf2, hwN⟩ : ∃ wN, wp1.alloc (.cells #[.string ⟨#[]⟩, .string ⟨#[]⟩, .int .i64 0, .slice none 0 0] 45) = wN := ⟨_, rfl⟩
                rw [hwN] at hbA hmA hmO h9A hHeld ⊢
                have hne : w9.heap.size ≠ wp1.heap.size := by omega
                clear hwN HW M13 HC
                have HW := Lib.hid hbA
                have M14 := Lib.hid hmA
                have M13 := Lib.hid hmO
                have HC := Lib.hid h9A
                clear hbA hmA hmO h9A hnO
                obtain ⟨s0, s1', s2', s3', s4, s5, sf⟩ := blk6' M13.out
                obtain ⟨t0, t1', t2', t3', tf⟩ := blk4 M14.out
                have hn1 : ¬ (w9.heap.size) = (wp1.heap.size) := hne
                have hn2 : ¬ (wp1.heap.size) = (w9.heap.size) := fun e => hne e.symm
                refine wpD_ready (rs := [12]) (by kernel_rfl) (by kernel_rfl) ?_
                refine AllReadyD.cons rfl (fun K hK => ?_) AllReadyD.nil
                rw [if_pos (show _ = true by kernel_rfl)]
                go_simp
                refine hK.out _ _ ⟨fun h => absurd h (by decide), fun h => absurd h (by decide)⟩ (fun _ => ?_)
                clear hK K
                refine wpD_ready (rs := [13]) (by kernel_rfl) (by kernel_rfl) ?_
                refine AllReadyD.cons rfl (fun K hK => ?_) AllReadyD.nil
                rw [if_pos (show _ = true by kernel_rfl)]
                go_simp
                refine hK.out _ _ ⟨fun h => absurd h (by decide), fun h => absurd h (by decide)⟩ (fun _ => ?_)
                clear hK K
                refine wpD_ready (rs := [14]) (by kernel_rfl) (by kernel_rfl) ?_
                refine AllReadyD.cons rfl (fun K hK => ?_) AllReadyD.nil
                rw [if_pos (show _ = true by kernel_rfl)]
                go_simp
                refine hK.out _ _ ⟨fun h => absurd h (by decide), fun h => absurd h (by decide)⟩ (fun _ => ?_)
                clear hK K
                refine wpD_done (by kernel_rfl) ?_
                go_wp2_with (fail)
                go_meet
                have HFE := fixR_end (n := w.heap.size) (c := b8) (f0 := .string fp.fr) (f1 := .string fp.to) (f2 := .int .i64 fp.sq) (f3 := .slice av fp.rs.length cv) HW.out hl13 hl14 hne M13.out HQ9.out (fun k hk => ⟨hk.1, by first | exact hk.2.1 | (have := hk.1.1; omega), by first | exact hk.2.2 | (have := hk.1.1; omega)⟩) HC.out
                exact ⟨_, _, _, _, _, _, _, rfl, rfl, HFE.1, HFE.2.1, HFE.2.2⟩
              · rw [if_pos (show _ = true by kernel_rfl)]
                go_simp
                clear hHeld
                refine hK.out _ _ ⟨fun _ => (by (repeat (first | (with_reducible exact Below.refl _ _) | (with_reducible exact HW.out) | (with_reducible apply bl_drewN) | (with_reducible apply bl_alloc) | (with_reducible apply Below.drew))); done), fun h => absurd h (by decide)⟩ (fun hHeld0 => ?_)
                have hHeld := hHeld0.1 rfl
                clear hHeld0 hK K
                have hbA : Below w7.heap.size w7 (w9.alloc (.cells #[.string ⟨#[]⟩, .string ⟨#[]⟩, .int .i64 0, .slice none 0 0] 45)) := bl_alloc HW.out _
                have hmA := alloc1_0 w9 (.cells #[.string ⟨#[]⟩, .string ⟨#[]⟩, .int .i64 0, .slice none 0 0] 45)
                have hl14 : w7.heap.size ≤ w9.heap.size := HW.out.size
                have h9A : Below w9.heap.size w9 (w9.alloc (.cells #[.string ⟨#[]⟩, .string ⟨#[]⟩, .int .i64 0, .slice none 0 0] 45)) := bl_alloc HC.out _
                have hg14 : w9.heap.size ≤ w9.heap.size := HC.out.size
                obtain ⟨wf3, hwN⟩ : ∃ wN, w9.alloc (.cells #[.string ⟨#[]⟩, .string ⟨#[]⟩, .int .i64 0, .slice none 0 0] 45) = wN := ⟨_, rfl⟩
                rw [hwN] at hbA hmA h9A hHeld ⊢
                clear hwN HW HC
                have HW := Lib.hid hbA
                have M14 := Lib.hid hmA
                have HC := Lib.hid h9A
                clear hbA hmA h9A
                refine wpD_ready (rs := [10]) (by kernel_rfl) (by kernel_rfl) ?_
                refine AllReadyD.cons rfl (fun K hK => ?_) (AllReadyD.nil)
                rw [if_pos (show _ = true by kernel_rfl)]
                go_simp
                clear hHeld
                refine hK.out _ _ ⟨fun _ => (by (repeat (first | (with_reducible exact Below.refl _ _) | (with_reducible exact HW.out) | (with_reducible apply bl_drewN) | (with_reducible apply bl_alloc) | (with_reducible apply Below.drew))); done), fun h => absurd h (by decide)⟩ (fun hHeld0 => ?_)
                have hHeld := hHeld0.1 rfl
                clear hHeld0 hK K
                have hbA : Below w7.heap.size w7 (wf3.alloc (.cells #[.string ⟨#[]⟩, .int .i64 0, .int .i64 0, .slice none 0 0, .slice none 0 0, .slice none 0 0] 29)) := bl_alloc HW.out _
                have hmA := alloc1_0 wf3 (.cells #[.string ⟨#[]⟩, .int .i64 0, .int .i64 0, .slice none 0 0, .slice none 0 0, .slice none 0 0] 29)
                have hl13 : w7.heap.size ≤ wf3.heap.size := HW.out.size
                have hmO := Go.Tw.Below.at_old (bl_alloc (Below.refl wf3.heap.size wf3) (.cells #[.string ⟨#[]⟩, .int .i64 0, .int .i64 0, .slice none 0 0, .slice none 0 0, .slice none 0 0] 29)) M14.out
                have hnO : w9.heap.size < wf3.heap.size := lt_of_heap M14.out
                have h9A : Below w9.heap.size w9 (wf3.alloc (.cells #[.string ⟨#[]⟩, .int .i64 0, .int .i64 0, .slice none 0 0, .slice none 0 0, .slice none 0 0] 29)) := bl_alloc HC.out _
                have hg13 : w9.heap.size ≤ wf3.heap.size := HC.out.size
                obtain ⟨wp4, hwN⟩ : ∃ wN, wf3.alloc (.cells #[.string ⟨#[]⟩, .int .i64 0, .int .i64 0, .slice none 0 0, .slice none 0 0, .slice none 0 0] 29) = wN := ⟨_, rfl⟩
                rw [hwN] at hbA hmA hmO h9A hHeld ⊢
                have hne : wf3.heap.size ≠ w9.heap.size := by omega
                clear hwN HW M14 HC
                have HW := Lib.hid hbA
                have M13 := Lib.hid hmA
                have M14 := Lib.hid hmO
                have HC := Lib.hid h9A
                clear hbA hmA hmO h9A hnO
                obtain ⟨s0, s1', s2', s3', s4, s5, sf⟩ := blk6' M13.out
                obtain ⟨t0, t1', t2', t3', tf⟩ := blk4 M14.out
                have hn1 : ¬ (wf3.heap.size) = (w9.heap.size) := hne
                have hn2 : ¬ (w9.heap.size) = (wf3.heap.size) := fun e => hne e.symm
                refine wpD_ready (rs := [12]) (by kernel_rfl) (by kernel_rfl) ?_
                refine AllReadyD.cons rfl (fun K hK => ?_) AllReadyD.nil
                rw [if_pos (show _ = true by kernel_rfl)]
                go_simp
                refine hK.out _ _ ⟨fun h => absurd h (by decide), fun h => absurd h (by decide)⟩ (fun _ => ?_)
                clear hK K
                refine wpD_ready (rs := [13]) (by kernel_rfl) (by kernel_rfl) ?_
                refine AllReadyD.cons rfl (fun K hK => ?_) AllReadyD.nil
                rw [if_pos (show _ = true by kernel_rfl)]
                go_simp
                refine hK.out _ _ ⟨fun h => absurd h (by decide), fun h => absurd h (by decide)⟩ (fun _ => ?_)
                clear hK K
                refine wpD_ready (rs := [14]) (by kernel_rfl) (by kernel_rfl) ?_
                refine AllReadyD.cons rfl (fun K hK => ?_) AllReadyD.nil
                rw [if_pos (show _ = true by kernel_rfl)]
                go_simp
                refine hK.out _ _ ⟨fun h => absurd h (by decide), fun h => absurd h (by decide)⟩ (fun _ => ?_)
                clear hK K
                refine wpD_done (by kernel_rfl) ?_
                go_wp2_with (fail)
                go_meet
                have HFE := fixR_end (n := w.heap.size) (c := b8) (f0 := .string fp.fr) (f1 := .string fp.to) (f2 := .int .i64 fp.sq) (f3 := .slice av fp.rs.length cv) HW.out hl13 hl14 hne M13.out HQ9.out (fun k hk => ⟨hk.1, by first | exact hk.2.1 | (have := hk.1.1; omega), by first | exact hk.2.2 | (have := hk.1.1; omega)⟩) HC.out
                exact ⟨_, _, _, _, _, _, _, rfl, rfl, HFE.1, HFE.2.1, HFE.2.2⟩
            · rw [if_pos (show _ = true by kernel_rfl)]
              go_simp
              clear hHeld
              refine hK.out _ _ ⟨fun _ => (by (repeat (first | (with_reducible exact Below.refl _ _) | (with_reducible exact HW.out) | (with_reducible apply bl_drewN) | (with_reducible apply bl_alloc) | (with_reducible apply Below.drew))); done), fun h => absurd h (by decide)⟩ (fun hHeld0 => ?_)
              have hHeld := hHeld0.1 rfl
              clear hHeld0 hK K
              have hbA : Below w7.heap.size w7 (w8.alloc (.cells #[.string ⟨#[]⟩, .int .i64 0, .int .i64 0, .slice none 0 0, .slice none 0 0, .slice none 0 0] 29)) := bl_alloc HW.out _
              have hmA := alloc1_0 w8 (.cells #[.string ⟨#[]⟩, .int .i64 0, .int .i64 0, .slice none 0 0, .slice none 0 0, .slice none 0 0] 29)
              have hl13 : w7.heap.size ≤ w8.heap.size := HW.out.size
              have h8A : Below w8.heap.size w8 (w8.alloc (.cells #[.string ⟨#[]⟩, .int .i64 0, .int .i64 0, .slice none 0 0, .slice none 0 0, .slice none 0 0] 29)) := bl_alloc HB8.out _
              obtain ⟨wp5, hwN⟩ : ∃ wN, w8.alloc (.cells #[.string ⟨#[]⟩, .int .i64 0, .int .i64 0, .slice none 0 0, .slice none 0 0, .slice none 0 0] 29) = wN := ⟨_, rfl⟩
              rw [hwN] at hbA hmA h8A hHeld ⊢
              clear hwN HW HB8
              have HW := Lib.hid hbA
              have M13 := Lib.hid hmA
              have HB8 := Lib.hid h8A
              clear hbA hmA h8A
              refine wpD_ready (rs := [5, 11]) (by kernel_rfl) (by kernel_rfl) ?_
              refine AllReadyD.cons rfl (fun K hK => ?_) (AllReadyD.cons rfl (fun K hK => ?_) (AllReadyD.nil))
              · rw [if_pos (show _ = true by kernel_rfl)]
                go_simp
                go_wp2_with (
                  go_at_call 25
                  refine (HSD.out _ _ (by (repeat (first | (with_reducible exact Below.refl _ _) | (with_reducible exact HW.out) | (with_reducible apply bl_drewN) | (with_reducible apply bl_alloc) | (with_reducible apply Below.drew))); done) (HVC.out.step (show Below w8.heap.size w8 _ from by (repeat (first | (with_reducible exact HB8.out) | (with_reducible apply bl_drewN) | (with_reducible apply Below.drew)))))).mono ?_
                  rintro e w9 ⟨⟨p1, s1, p2, s2, p3, s3, av, cv, rfl, hq9⟩, hb9⟩
                  have hlt := HK7.out.lt
                  have hW7 := HW.out.size
                  have hW9 : wp5.heap.size ≤ w9.heap.size := hb9.size
                  have hl13' := lt_of_heap M13.out
                  have HQ9 := Lib.hid (hq9.keep (S' := fun k => MB w.heap.size b8 w9 k ∧ k ≠ (w8.heap.size) ∧ True) (w' := w9) (fun k hk => by
                    rcases hk with hk | hk
                    · have h0 := hk.1
                      exact ⟨MB.up (by omega) k hk, by first | trivial | omega, by first | trivial | omega⟩
                    · have h1 : wp5.heap.size ≤ k := hk.1
                      exact ⟨⟨hk.2, .inr (by omega), by omega, by omega⟩, by first | trivial | omega, by first | trivial | omega⟩) (SameOn.refl _ _))
                  have hm13 := Go.Tw.Below.at_old hb9 M13.out
                  have M13' := Lib.hid (show w9.heap[(w8.heap.size)]? = some (.cells #[.string ⟨#[]⟩, .int .i64 0, .int .i64 0, .slice none 0 0, .slice none 0 0, .slice none 0 0] 29 (0, 0)) from hm13)
                  have HC := Lib.hid (Below.refl w9.heap.size w9)
                  have HP1 := Lib.hid (show Below w7.heap.size w7 w9 from by (refine bl_trans ?_ hb9; exact (by (repeat (first | (with_reducible exact Below.refl _ _) | (with_reducible exact HW.out) | (with_reducible apply bl_drewN) | (with_reducible apply bl_alloc) | (with_reducible apply Below.drew))); done)))
                  clear HW HVC HB8 hb9 hq9 hlt hW7 hW9 M13 hm13 hl13'
                  have HW := HP1
                  have M13 := M13'
                  clear M13'
                  clear HP1)
                clear hHeld
                refine hK.out _ _ ⟨fun _ => HW.out, fun h => absurd h (by decide)⟩ (fun hHeld0 => ?_)
                have hHeld := hHeld0.1 rfl
                clear hHeld0 hK K
                refine wpD_take (i := 6) (v := ?_) rfl (by kernel_rfl) (fun _ _ _ h => h) (Or.inl ⟨by kernel_rfl, ?_⟩) (by assumption) ?_
                rotate_left
                focus (intro w9 hS9; (try dsimp only at hS9); go_simp; (try with_reducible rfl))
                (try simp only [Act.put])
                (try simp only [List.setIfInBounds_toArray])
                (repeat (first | simp only [Z1] | simp only [Z2]))
                refine wpD_take (i := 7) (v := ?_) rfl (by kernel_rfl) (fun _ _ _ h => h) (Or.inl ⟨by kernel_rfl, ?_⟩) (by assumption) ?_
                rotate_left
                focus (intro w9 hS9; (try dsimp only at hS9); go_simp; (try with_reducible rfl))
                (try simp only [Act.put])
                (try simp only [List.setIfInBounds_toArray])
                (repeat (first | simp only [Z1] | simp only [Z2]))
                refine wpD_pure (i := 8) (v := ?_) rfl (by kernel_rfl) (fun _ _ _ h => h) (Or.inl ⟨by kernel_rfl, ?_⟩) ?_
                rotate_left
                focus (intro w9 hS9; clear hS9; go_simp; (try with_reducible rfl))
                (try simp only [Act.put])
                (try simp only [List.setIfInBounds_toArray])
                (repeat (first | simp only [Z1] | simp only [Z2]))
                refine wpD_pure (i := 9) (v := ?_) rfl (by kernel_rfl) (fun _ _ _ h => h) (Or.inl ⟨by kernel_rfl, ?_⟩) ?_
                rotate_left
                focus (intro w9 hS9; clear hS9; go_simp; (try with_reducible rfl))
                (try simp only [Act.put])
                (try simp only [List.setIfInBounds_toArray])
                (repeat (first | simp only [Z1] | simp only [Z2]))
                refine wpD_ready (rs := [11]) (by kernel_rfl) (by kernel_rfl) ?_
                refine AllReadyD.cons rfl (fun K hK => ?_) (AllReadyD.nil)
                rw [if_pos (show _ = true by kernel_rfl)]
                go_simp
                clear hHeld
                refine hK.out _ _ ⟨fun _ => (by (repeat (first | (with_reducible exact Below.refl _ _) | (with_reducible exact HW.out) | (with_reducible apply bl_drewN) | (with_reducible apply bl_alloc) | (with_reducible apply Below.drew))); done), fun h => absurd h (by decide)⟩ (fun hHeld0 => ?_)
                have hHeld := hHeld0.1 rfl
                clear hHeld0 hK K
                have hbA : Below w7.heap.size w7 (w9.alloc (.cells #[.string ⟨#[]⟩, .string ⟨#[]⟩, .int .i64 0, .slice none 0 0] 45)) := bl_alloc HW.out _
                have hmA := alloc1_0 w9 (.cells #[.string ⟨#[]⟩, .string ⟨#[]⟩, .int .i64 0, .slice none 0 0] 45)
                have hl14 : w7.heap.size ≤ w9.heap.size := HW.out.size
                have hmO := Go.Tw.Below.at_old (bl_alloc (Below.refl w9.heap.size w9) (.cells #[.string ⟨#[]⟩, .string ⟨#[]⟩, .int .i64 0, .slice none 0 0] 45)) M13.out
                have hnO : w8.heap.size < w9.heap.size := lt_of_heap M13.out
                have h9A : Below w9.heap.size w9 (w9.alloc (.cells #[.string ⟨#[]⟩, .string ⟨#[]⟩, .int .i64 0, .slice none 0 0] 45)) := bl_alloc HC.out _
                have hg14 : w9.heap.size ≤ w9.heap.size := HC.out.size
                obtain ⟨wf6, hwN⟩ : ∃ wN, w9.alloc (.cells #[.string ⟨#[]⟩, .string ⟨#[]⟩, .int .i64 0, .slice none 0 0] 45) = wN := ⟨_, rfl⟩
                rw [hwN] at hbA hmA hmO h9A hHeld ⊢
                have hne : w8.heap.size ≠ w9.heap.size := by omega
                clear hwN HW M13 HC
                have HW := Lib.hid hbA
                have M14 := Lib.hid hmA
                have M13 := Lib.hid hmO
                have HC := Lib.hid h9A
                clear hbA hmA hmO h9A hnO
                obtain ⟨s0, s1', s2', s3', s4, s5, sf⟩ := blk6' M13.out
                obtain ⟨t0, t1', t2', t3', tf⟩ := blk4 M14.out
                have hn1 : ¬ (w8.heap.size) = (w9.heap.size) := hne
                have hn2 : ¬ (w9.heap.size) = (w8.heap.size) := fun e => hne e.symm
                refine wpD_ready (rs := [12]) (by kernel_rfl) (by kernel_rfl) ?_
                refine AllReadyD.cons rfl (fun K hK => ?_) AllReadyD.nil
                rw [if_pos (show _ = true by kernel_rfl)]
                go_simp
                refine hK.out _ _ ⟨fun h => absurd h (by decide), fun h => absurd h (by decide)⟩ (fun _ => ?_)
                clear hK K
                refine wpD_ready (rs := [13]) (by kernel_rfl) (by kernel_rfl) ?_
                refine AllReadyD.cons rfl (fun K hK => ?_) AllReadyD.nil
                rw [if_pos (show _ = true by kernel_rfl)]
                go_simp
                refine hK.out _ _ ⟨fun h => absurd h (by decide), fun h => absurd h (by decide)⟩ (fun _ => ?_)
                clear hK K
                refine wpD_ready (rs := [14]) (by kernel_rfl) (by kernel_rfl) ?_
                refine AllReadyD.cons rfl (fun K hK => ?_) AllReadyD.nil
                rw [if_pos (show _ = true by kernel_rfl)]
                go_simp
                refine hK.out _ _ ⟨fun h => absurd h (by decide), fun h => absurd h (by decide)⟩ (fun _ => ?_)
                clear hK K
                refine wpD_done (by kernel_rfl) ?_
                go_wp2_with (fail)
                go_meet
                have HFE := fixR_end (n := w.heap.size) (c := b8) (f0 := .string fp.fr) (f1 := .string fp.to) (f2 := .int .i64 fp.sq) (f3 := .slice av fp.rs.length cv) HW.out hl13 hl14 hne M13.out HQ9.out (fun k hk => ⟨hk.1, by first | exact hk.2.1 | (have := hk.1.1; omega), by first | exact hk.2.2 | (have := hk.1.1; omega)⟩) HC.out
                exact ⟨_, _, _, _, _, _, _, rfl, rfl, HFE.1, HFE.2.1, HFE.2.2⟩
              · rw [if_pos (show _ = true by kernel_rfl)]
                go_simp
                clear hHeld
                refine hK.out _ _ ⟨fun _ => (by (repeat (first | (with_reducible exact Below.refl _ _) | (with_reducible exact HW.out) | (with_reducible apply bl_drewN) | (with_reducible apply bl_alloc) | (with_reducible apply Below.drew))); done), fun h => absurd h (by decide)⟩ (fun hHeld0 => ?_)
                have hHeld := hHeld0.1 rfl
                clear hHeld0 hK K
                have hbA : Below w7.heap.size w7 (wp5.alloc (.cells #[.string ⟨#[]⟩, .string ⟨#[]⟩, .int .i64 0, .slice none 0 0] 45)) := bl_alloc HW.out _
                have hmA := alloc1_0 wp5 (.cells #[.string ⟨#[]⟩, .string ⟨#[]⟩, .int .i64 0, .slice none 0 0] 45)
                have hl14 : w7.heap.size ≤ wp5.heap.size := HW.out.size
                have hmO := Go.Tw.Below.at_old (bl_alloc (Below.refl wp5.heap.size wp5) (.cells #[.string ⟨#[]⟩, .string ⟨#[]⟩, .int .i64 0, .slice none 0 0] 45)) M13.out
                have hnO : w8.heap.size < wp5.heap.size := lt_of_heap M13.out
                have h8A : Below w8.heap.size w8 (wp5.alloc (.cells #[.string ⟨#[]⟩, .string ⟨#[]⟩, .int .i64 0, .slice none 0 0] 45)) := bl_alloc HB8.out _
                obtain ⟨wf7, hwN⟩ : ∃ wN, wp5.alloc (.cells #[.string ⟨#[]⟩, .string ⟨#[]⟩, .int .i64 0, .slice none 0 0] 45) = wN := ⟨_, rfl⟩
                rw [hwN] at hbA hmA hmO h8A hHeld ⊢
                have hne : w8.heap.size ≠ wp5.heap.size := by omega
                clear hwN HW M13 HB8
                have HW := Lib.hid hbA
                have M14 := Lib.hid hmA
                have M13 := Lib.hid hmO
                have HB8 := Lib.hid h8A
                clear hbA hmA hmO h8A hnO
                refine wpD_ready (rs := [5]) (by kernel_rfl) (by kernel_rfl) ?_
                refine AllReadyD.cons rfl (fun K hK => ?_) (AllReadyD.nil)
                rw [if_pos (show _ = true by kernel_rfl)]
                go_simp
                go_wp2_with (
                  go_at_call 25
                  refine (HSD.out _ _ (by (repeat (first | (with_reducible exact Below.refl _ _) | (with_reducible exact HW.out) | (with_reducible apply bl_drewN) | (with_reducible apply bl_alloc) | (with_reducible apply Below.drew))); done) (HVC.out.step (show Below w8.heap.size w8 _ from by (repeat (first | (with_reducible exact HB8.out) | (with_reducible apply bl_drewN) | (with_reducible apply Below.drew)))))).mono ?_
                  rintro e w9 ⟨⟨p1, s1, p2, s2, p3, s3, av, cv, rfl, hq9⟩, hb9⟩
                  have hlt := HK7.out.lt
                  have hW7 := HW.out.size
                  have hW9 : wf7.heap.size ≤ w9.heap.size := hb9.size
                  have hl13' := lt_of_heap M13.out
                  have hl14' := lt_of_heap M14.out
                  have HQ9 := Lib.hid (hq9.keep (S' := fun k => MB w.heap.size b8 w9 k ∧ k ≠ (w8.heap.size) ∧ k ≠ (wp5.heap.size)) (w' := w9) (fun k hk => by
                    rcases hk with hk | hk
                    · have h0 := hk.1
                      exact ⟨MB.up (by omega) k hk, by first | trivial | omega, by first | trivial | omega⟩
                    · have h1 : wf7.heap.size ≤ k := hk.1
                      exact ⟨⟨hk.2, .inr (by omega), by omega, by omega⟩, by first | trivial | omega, by first | trivial | omega⟩) (SameOn.refl _ _))
                  have hm13 := Go.Tw.Below.at_old hb9 M13.out
                  have M13' := Lib.hid (show w9.heap[(w8.heap.size)]? = some (.cells #[.string ⟨#[]⟩, .int .i64 0, .int .i64 0, .slice none 0 0, .slice none 0 0, .slice none 0 0] 29 (0, 0)) from hm13)
                  have hm14 := Go.Tw.Below.at_old hb9 M14.out
                  have M14' := Lib.hid (show w9.heap[(wp5.heap.size)]? = some (.cells #[.string ⟨#[]⟩, .string ⟨#[]⟩, .int .i64 0, .slice none 0 0] 45 (0, 0)) from hm14)
                  have HC := Lib.hid (Below.refl w9.heap.size w9)
                  have HP1 := Lib.hid (show Below w7.heap.size w7 w9 from by (refine bl_trans ?_ hb9; exact (by (repeat (first | (with_reducible exact Below.refl _ _) | (with_reducible exact HW.out) | (with_reducible apply bl_drewN) | (with_reducible apply bl_alloc) | (with_reducible apply Below.drew))); done)))
                  clear HW HVC HB8 hb9 hq9 hlt hW7 hW9 M13 hm13 hl13' M14 hm14 hl14'
                  have HW := HP1
                  have M13 := M13'
                  clear M13'
                  have M14 := M14'
                  clear M14'
                  clear HP1)
                clear hHeld
                refine hK.out _ _ ⟨fun _ => HW.out, fun h => absurd h (by decide)⟩ (fun hHeld0 => ?_)
                have hHeld := hHeld0.1 rfl
                clear hHeld0 hK K
                refine wpD_take (i := 6) (v := ?_) rfl (by kernel_rfl) (fun _ _ _ h => h) (Or.inl ⟨by kernel_rfl, ?_⟩) (by assumption) ?_
                rotate_left
                focus (intro w9 hS9; (try dsimp only at hS9); go_simp; (try with_reducible rfl))
                (try simp only [Act.put])
                (try simp only [List.setIfInBounds_toArray])
                (repeat (first | simp only [Z1] | simp only [Z2]))
                refine wpD_take (i := 7) (v := ?_) rfl (by kernel_rfl) (fun _ _ _ h => h) (Or.inl ⟨by kernel_rfl, ?_⟩) (by assumption) ?_
                rotate_left
                focus (intro w9 hS9; (try dsimp only at hS9); go_simp; (try with_reducible rfl))
                (try simp only [Act.put])
                (try simp only [List.setIfInBounds_toArray])
                (repeat (first | simp only [Z1] | simp only [Z2]))
                refine wpD_pure (i := 8) (v := ?_) rfl (by kernel_rfl) (fun _ _ _ h => h) (Or.inl ⟨by kernel_rfl, ?_⟩) ?_
                rotate_left
                focus (intro w9 hS9; clear hS9; go_simp; (try with_reducible rfl))
                (try simp only [Act.put])
                (try simp only [List.setIfInBounds_toArray])
                (repeat (first | simp only [Z1] | simp only [Z2]))
                refine wpD_pure (i := 9) (v := ?_) rfl (by kernel_rfl) (fun _ _ _ h => h) (Or.inl ⟨by kernel_rfl, ?_⟩) ?_
                rotate_left
                focus (intro w9 hS9; clear hS9; go_simp; (try with_reducible rfl))
                (try simp only [Act.put])
                (try simp only [List.setIfInBounds_toArray])
                (repeat (first | simp only [Z1] | simp only [Z2]))
                obtain ⟨s0, s1', s2', s3', s4, s5, sf⟩ := blk6' M13.out
                obtain ⟨t0, t1', t2', t3', tf⟩ := blk4 M14.out
                have hn1 : ¬ (w8.heap.size) = (wp5.heap.size) := hne
                have hn2 : ¬ (wp5.heap.size) = (w8.heap.size) := fun e => hne e.symm
                refine wpD_ready (rs := [12]) (by kernel_rfl) (by kernel_rfl) ?_
                refine AllReadyD.cons rfl (fun K hK => ?_) AllReadyD.nil
                rw [if_pos (show _ = true by kernel_rfl)]
                go_simp
                refine hK.out _ _ ⟨fun h => absurd h (by decide), fun h => absurd h (by decide)⟩ (fun _ => ?_)
                clear hK K
                refine wpD_ready (rs := [13]) (by kernel_rfl) (by kernel_rfl) ?_
                refine AllReadyD.cons rfl (fun K hK => ?_) AllReadyD.nil
                rw [if_pos (show _ = true by kernel_rfl)]
                go_simp
                refine hK.out _ _ ⟨fun h => absurd h (by decide), fun h => absurd h (by decide)⟩ (fun _ => ?_)
                clear hK K
                refine wpD_ready (rs := [14]) (by kernel_rfl) (by kernel_rfl) ?_
                refine AllReadyD.cons rfl (fun K hK => ?_) AllReadyD.nil
                rw [if_pos (show _ = true by kernel_rfl)]
                go_simp
                refine hK.out _ _ ⟨fun h => absurd h (by decide), fun h => absurd h (by decide)⟩ (fun _ => ?_)
                clear hK K
                refine wpD_done (by kernel_rfl) ?_
                go_wp2_with (fail)
                go_meet
                have HFE := fixR_end (n := w.heap.size) (c := b8) (f0 := .string fp.fr) (f1 := .string fp.to) (f2 := .int .i64 fp.sq) (f3 := .slice av fp.rs.length cv) HW.out hl13 hl14 hne M13.out HQ9.out (fun k hk => ⟨hk.1, by first | exact hk.2.1 | (have := hk.1.1; omega), by first | exact hk.2.2 | (have := hk.1.1; omega)⟩) HC.out
                exact ⟨_, _, _, _, _, _, _, rfl, rfl, HFE.1, HFE.2.1, HFE.2.2⟩
            · rw [if_pos (show _ = true by kernel_rfl)]
              go_simp
              clear hHeld
              refine hK.out _ _ ⟨fun _ => (by (repeat (first | (with_reducible exact Below.refl _ _) | (with_reducible exact HW.out) | (with_reducible apply bl_drewN) | (with_reducible apply bl_alloc) | (with_reducible apply Below.drew))); done), fun h => absurd h (by decide)⟩ (fun hHeld0 => ?_)
              have hHeld := hHeld0.1 rfl
              clear hHeld0 hK K
              have hbA : Below w7.heap.size w7 (w8.alloc (.cells #[.string ⟨#[]⟩, .string ⟨#[]⟩, .int .i64 0, .slice none 0 0] 45)) := bl_alloc HW.out _
              have hmA := alloc1_0 w8 (.cells #[.string ⟨#[]⟩, .string ⟨#[]⟩, .int .i64 0, .slice none 0 0] 45)
              have hl14 : w7.heap.size ≤ w8.heap.size := HW.out.size
              have h8A : Below w8.heap.size w8 (w8.alloc (.cells #[.string ⟨#[]⟩, .string ⟨#[]⟩, .int .i64 0, .slice none 0 0] 45)) := bl_alloc HB8.out _
              obtain ⟨wf8, hwN⟩ : ∃ wN, w8.alloc (.cells #[.string ⟨#[]⟩, .string ⟨#[]⟩, .int .i64 0, .slice none 0 0] 45) = wN := ⟨_, rfl⟩
              rw [hwN] at hbA hmA h8A hHeld ⊢
              clear hwN HW HB8
              have HW := Lib.hid hbA
              have M14 := Lib.hid hmA
              have HB8 := Lib.hid h8A
              clear hbA hmA h8A
              refine wpD_ready (rs := [5, 10]) (by kernel_rfl) (by kernel_rfl) ?_
              refine AllReadyD.cons rfl (fun K hK => ?_) (AllReadyD.cons rfl (fun K hK => ?_) (AllReadyD.nil))
              · rw [if_pos (show _ = true by kernel_rfl)]
                go_simp
                go_wp2_with (
                  go_at_call 25
                  refine (HSD.out _ _ (by (repeat (first | (with_reducible exact Below.refl _ _) | (with_reducible exact HW.out) | (with_reducible apply bl_drewN) | (with_reducible apply bl_alloc) | (with_reducible apply Below.drew))); done) (HVC.out.step (show Below w8.heap.size w8 _ from by (repeat (first | (with_reducible exact HB8.out) | (with_reducible apply bl_drewN) | (with_reducible apply Below.drew)))))).mono ?_
                  rintro e w9 ⟨⟨p1, s1, p2, s2, p3, s3, av, cv, rfl, hq9⟩, hb9⟩
                  have hlt := HK7.out.lt
                  have hW7 := HW.out.size
                  have hW9 : wf8.heap.size ≤ w9.heap.size := hb9.size
                  have hl14' := lt_of_heap M14.out
                  have HQ9 := Lib.hid (hq9.keep (S' := fun k => MB w.heap.size b8 w9 k ∧ True ∧ k ≠ (w8.heap.size)) (w' := w9) (fun k hk => by
                    rcases hk with hk | hk
                    · have h0 := hk.1
                      exact ⟨MB.up (by omega) k hk, by first | trivial | omega, by first | trivial | omega⟩
                    · have h1 : wf8.heap.size ≤ k := hk.1
                      exact ⟨⟨hk.2, .inr (by omega), by omega, by omega⟩, by first | trivial | omega, by first | trivial | omega⟩) (SameOn.refl _ _))
                  have hm14 := Go.Tw.Below.at_old hb9 M14.out
                  have M14' := Lib.hid (show w9.heap[(w8.heap.size)]? = some (.cells #[.string ⟨#[]⟩, .string ⟨#[]⟩, .int .i64 0, .slice none 0 0] 45 (0, 0)) from hm14)
                  have HC := Lib.hid (Below.refl w9.heap.size w9)
                  have HP1 := Lib.hid (show Below w7.heap.size w7 w9 from by (refine bl_trans ?_ hb9; exact (by (repeat (first | (with_reducible exact Below.refl _ _) | (with_reducible exact HW.out) | (with_reducible apply bl_drewN) | (with_reducible apply bl_alloc) | (with_reducible apply Below.drew))); done)))
                  clear HW HVC HB8 hb9 hq9 hlt hW7 hW9 M14 hm14 hl14'
                  have HW := HP1
                  have M14 := M14'
                  clear M14'
                  clear HP1)
                clear hHeld
                refine hK.out _ _ ⟨fun _ => HW.out, fun h => absurd h (by decide)⟩ (fun hHeld0 => ?_)
                have hHeld := hHeld0.1 rfl
                clear hHeld0 hK K
                refine wpD_take (i := 6) (v := ?_) rfl (by kernel_rfl) (fun _ _ _ h => h) (Or.inl ⟨by kernel_rfl, ?_⟩) (by assumption) ?_
                rotate_left
                focus (intro w9 hS9; (try dsimp only at hS9); go_simp; (try with_reducible rfl))
                (try simp only [Act.put])
                (try simp only [List.setIfInBounds_toArray])
                (repeat (first | simp only [Z1] | simp only [Z2]))
                refine wpD_take (i := 7) (v := ?_) rfl (by kernel_rfl) (fun _ _ _ h => h) (Or.inl ⟨by kernel_rfl, ?_⟩) (by assumption) ?_
                rotate_left
                focus (intro w9 hS9; (try dsimp only at hS9); go_simp; (try with_reducible rfl))
                (try simp only [Act.put])
                (try simp only [List.setIfInBounds_toArray])
                (repeat (first | simp only [Z1] | simp only [Z2]))
                refine wpD_pure (i := 8) (v := ?_) rfl (by kernel_rfl) (fun _ _ _ h => h) (Or.inl ⟨by kernel_rfl, ?_⟩) ?_
                rotate_left
                focus (intro w9 hS9; clear hS9; go_simp; (try with_reducible rfl))
                (try simp only [Act.put])
                (try simp only [List.setIfInBounds_toArray])
                (repeat (first | simp only [Z1] | simp only [Z2]))
                refine wpD_pure (i := 9) (v := ?_) rfl (by kernel_rfl) (fun _ _ _ h => h) (Or.inl ⟨by kernel_rfl, ?_⟩) ?_
                rotate_left
                focus (intro w9 hS9; clear hS9; go_simp; (try with_reducible rfl))
                (try simp only [Act.put])
                (try simp only [List.setIfInBounds_toArray])
                (repeat (first | simp only [Z1] | simp only [Z2]))
                refine wpD_ready (rs := [10]) (by kernel_rfl) (by kernel_rfl) ?_
                refine AllReadyD.cons rfl (fun K hK => ?_) (AllReadyD.nil)
                rw [if_pos (show _ = true by kernel_rfl)]
                go_simp
                clear hHeld
                refine hK.out _ _ ⟨fun _ => (by (repeat (first | (with_reducible exact Below.refl _ _) | (with_reducible exact HW.out) | (with_reducible apply bl_drewN) | (with_reducible apply bl_alloc) | (with_reducible apply Below.drew))); done), fun h => absurd h (by decide)⟩ (fun hHeld0 => ?_)
                have hHeld := hHeld0.1 rfl
                clear hHeld0 hK K
                have hbA : Below w7.heap.size w7 (w9.alloc (.cells #[.string ⟨#[]⟩, .int .i64 0, .int .i64 0, .slice none 0 0, .slice none 0 0, .slice none 0 0] 29)) := bl_alloc HW.out _
                have hmA := alloc1_0 w9 (.cells #[.string ⟨#[]⟩, .int .i64 0, .int .i64 0, .slice none 0 0, .slice none 0 0, .slice none 0 0] 29)
                have hl13 : w7.heap.size ≤ w9.heap.size := HW.out.size
                have hmO := Go.Tw.Below.at_old (bl_alloc (Below.refl w9.heap.size w9) (.cells #[.string ⟨#[]⟩, .int .i64 0, .int .i64 0, .slice none 0 0, .slice none 0 0, .slice none 0 0] 29)) M14.out
                have hnO : w8.heap.size < w9.heap.size := lt_of_heap M14.out
                have h9A : Below w9.heap.size w9 (w9.alloc (.cells #[.string ⟨#[]⟩, .int .i64 0, .int .i64 0, .slice none 0 0, .slice none 0 0, .slice none 0 0] 29)) := bl_alloc HC.out _
                have hg13 : w9.heap.size ≤ w9.heap.size := HC.out.size
                obtain ⟨wp9, hwN⟩ : ∃ wN, w9.alloc (.cells #[.string ⟨#[]⟩, .int .i64 0, .int .i64 0, .slice none 0 0, .slice none 0 0, .slice none 0 0] 29) = wN := ⟨_, rfl⟩
                rw [hwN] at hbA hmA hmO h9A hHeld ⊢
                have hne : w9.heap.size ≠ w8.heap.size := by omega
                clear hwN HW M14 HC
                have HW := Lib.hid hbA
                have M13 := Lib.hid hmA
                have M14 := Lib.hid hmO
                have HC := Lib.hid h9A
                clear hbA hmA hmO h9A hnO
                obtain ⟨s0, s1', s2', s3', s4, s5, sf⟩ := blk6' M13.out
                obtain ⟨t0, t1', t2', t3', tf⟩ := blk4 M14.out
                have hn1 : ¬ (w9.heap.size) = (w8.heap.size) := hne
                have hn2 : ¬ (w8.heap.size) = (w9.heap.size) := fun e => hne e.symm
                refine wpD_ready (rs := [12]) (by kernel_rfl) (by kernel_rfl) ?_
                refine AllReadyD.cons rfl (fun K hK => ?_) AllReadyD.nil
                rw [if_pos (show _ = true by kernel_rfl)]
                go_simp
                refine hK.out _ _ ⟨fun h => absurd h (by decide), fun h => absurd h (by decide)⟩ (fun _ => ?_)
                clear hK K
                refine wpD_ready (rs := [13]) (by kernel_rfl) (by kernel_rfl) ?_
                refine AllReadyD.cons rfl (fun K hK => ?_) AllReadyD.nil
                rw [if_pos (show _ = true by kernel_rfl)]
                go_simp
                refine hK.out _ _ ⟨fun h => absurd h (by decide), fun h => absurd h (by decide)⟩ (fun _ => ?_)
                clear hK K
                refine wpD_ready (rs := [14]) (by kernel_rfl) (by kernel_rfl) ?_
                refine AllReadyD.cons rfl (fun K hK => ?_) AllReadyD.nil
                rw [if_pos (show _ = true by kernel_rfl)]
                go_simp
                refine hK.out _ _ ⟨fun h => absurd h (by decide), fun h => absurd h (by decide)⟩ (fun _ => ?_)
                clear hK K
                refine wpD_done (by kernel_rfl) ?_
                go_wp2_with (fail)
                go_meet
                have HFE := fixR_end (n := w.heap.size) (c := b8) (f0 := .string fp.fr) (f1 := .string fp.to) (f2 := .int .i64 fp.sq) (f3 := .slice av fp.rs.length cv) HW.out hl13 hl14 hne M13.out HQ9.out (fun k hk => ⟨hk.1, by first | exact hk.2.1 | (have := hk.1.1; omega), by first | exact hk.2.2 | (have := hk.1.1; omega)⟩) HC.out
                exact ⟨_, _, _, _, _, _, _, rfl, rfl, HFE.1, HFE.2.1, HFE.2.2⟩
              · rw [if_pos (show _ = true by kernel_rfl)]
                go_simp
                clear hHeld
                refine hK.out _ _ ⟨fun _ => (by (repeat (first | (with_reducible exact Below.refl _ _) | (with_reducible exact HW.out) | (with_reducible apply bl_drewN) | (with_reducible apply bl_alloc) | (with_reducible apply Below.drew))); done), fun h => absurd h (by decide)⟩ (fun hHeld0 => ?_)
                have hHeld := hHeld0.1 rfl
                clear hHeld0 hK K
                have hbA : Below w7.heap.size w7 (wf8.alloc (.cells #[.string ⟨#[]⟩, .int .i64 0, .int .i64 0, .slice none 0 0, .slice none 0 0, .slice none 0 0] 29)) := bl_alloc HW.out _
                have hmA := alloc1_0 wf8 (.cells #[.string ⟨#[]⟩, .int .i64 0, .int .i64 0, .slice none 0 0, .slice none 0 0, .slice none 0 0] 29)
                have hl13 : w7.heap.size ≤ wf8.heap.size := HW.out.size
                have hmO := Go.Tw.Below.at_old (bl_alloc (Below.refl wf8.heap.size wf8) (.cells #[.string ⟨#[]⟩, .int .i64 0, .int .i64 0, .slice none 0 0, .slice none 0 0, .slice none 0 0] 29)) M14.out
                have hnO : w8.heap.size < wf8.heap.size := lt_of_heap M14.out
                have h8A : Below w8.heap.size w8 (wf8.alloc (.cells #[.string ⟨#[]⟩, .int .i64 0, .int .i64 0, .slice none 0 0, .slice none 0 0, .slice none 0 0] 29)) := bl_alloc HB8.out _
                obtain ⟨wp10, hwN⟩ : ∃ wN, wf8.alloc (.cells #[.string ⟨#[]⟩, .int .i64 0, .int .i64 0, .slice none 0 0, .slice none 0 0, .slice none 0 0] 29) = wN := ⟨_, rfl⟩
                rw [hwN] at hbA hmA hmO h8A hHeld ⊢
                have hne : wf8.heap.size ≠ w8.heap.size := by omega
                clear hwN HW M14 HB8
                have HW := Lib.hid hbA
                have M13 := Lib.hid hmA
                have M14 := Lib.hid hmO
                have HB8 := Lib.hid h8A
                clear hbA hmA hmO h8A hnO
                refine wpD_ready (rs := [5]) (by kernel_rfl) (by kernel_rfl) ?_
                refine AllReadyD.cons rfl (fun K hK => ?_) (AllReadyD.nil)
                rw [if_pos (show _ = true by kernel_rfl)]
                go_simp
                go_wp2_with (
                  go_at_call 25
                  refine (HSD.out _ _ (by (repeat (first | (with_reducible exact Below.refl _ _) | (with_reducible exact HW.out) | (with_reducible apply bl_drewN) | (with_reducible apply bl_alloc) | (with_reducible apply Below.drew))); done) (HVC.out.step (show Below w8.heap.size w8 _ from by (repeat (first | (with_reducible exact HB8.out) | (with_reducible apply bl_drewN) | (with_reducible apply Below.drew)))))).mono ?_
                  rintro e w9 ⟨⟨p1, s1, p2, s2, p3, s3, av, cv, rfl, hq9⟩, hb9⟩
                  have hlt := HK7.out.lt
                  have hW7 := HW.out.size
                  have hW9 : wp10.heap.size ≤ w9.heap.size := hb9.size
                  have hl13' := lt_of_heap M13.out
                  have hl14' := lt_of_heap M14.out
                  have HQ9 := Lib.hid (hq9.keep (S' := fun k => MB w.heap.size b8 w9 k ∧ k ≠ (wf8.heap.size) ∧ k ≠ (w8.heap.size)) (w' := w9) (fun k hk => by
                    rcases hk with hk | hk
                    · have h0 := hk.1
                      exact ⟨MB.up (by omega) k hk, by first | trivial | omega, by first | trivial | omega⟩
                    · have h1 : wp10.heap.size ≤ k := hk.1
                      exact ⟨⟨hk.2, .inr (by omega), by omega, by omega⟩, by first | trivial | omega, by first | trivial | omega⟩) (SameOn.refl _ _))
                  have hm13 := Go.Tw.Below.at_old hb9 M13.out
                  have M13' := Lib.hid (show w9.heap[(wf8.heap.size)]? = some (.cells #[.string ⟨#[]⟩, .int .i64 0, .int .i64 0, .slice none 0 0, .slice none 0 0, .slice none 0 0] 29 (0, 0)) from hm13)
                  have hm14 := Go.Tw.Below.at_old hb9 M14.out
                  have M14' := Lib.hid (show w9.heap[(w8.heap.size)]? = some (.cells #[.string ⟨#[]⟩, .string ⟨#[]⟩, .int .i64 0, .slice none 0 0] 45 (0, 0)) from hm14)
                  have HC := Lib.hid (Below.refl w9.heap.size w9)
                  have HP1 := Lib.hid (show Below w7.heap.size w7 w9 from by (refine bl_trans ?_ hb9; exact (by (repeat (first | (with_reducible exact Below.refl _ _) | (with_reducible exact HW.out) | (with_reducible apply bl_drewN) | (with_reducible apply bl_alloc) | (with_reducible apply Below.drew))); done)))
                  clear HW HVC HB8 hb9 hq9 hlt hW7 hW9 M13 hm13 hl13' M14 hm14 hl14'
                  have HW := HP1
                  have M13 := M13'
                  clear M13'
                  have M14 := M14'
                  clear M14'
                  clear HP1)
                clear hHeld
                refine hK.out _ _ ⟨fun _ => HW.out, fun h => absurd h (by decide)⟩ (fun hHeld0 => ?_)
                have hHeld := hHeld0.1 rfl
                clear hHeld0 hK K
                refine wpD_take (i := 6) (v := ?_) rfl (by kernel_rfl) (fun _ _ _ h => h) (Or.inl ⟨by kernel_rfl, ?_⟩) (by assumption) ?_
                rotate_left
                focus (intro w9 hS9; (try dsimp only at hS9); go_simp; (try with_reducible rfl))
                (try simp only [Act.put])
                (try simp only [List.setIfInBounds_toArray])
                (repeat (first | simp only [Z1] | simp only [Z2]))
                refine wpD_take (i := 7) (v := ?_) rfl (by kernel_rfl) (fun _ _ _ h => h) (Or.inl ⟨by kernel_rfl, ?_⟩) (by assumption) ?_
                rotate_left
                focus (intro w9 hS9; (try dsimp only at hS9); go_simp; (try with_reducible rfl))
                (try simp only [Act.put])
                (try simp only [List.setIfInBounds_toArray])
                (repeat (first | simp only [Z1] | simp only [Z2]))
                refine wpD_pure (i := 8) (v := ?_) rfl (by kernel_rfl) (fun _ _ _ h => h) (Or.inl ⟨by kernel_rfl, ?_⟩) ?_
                rotate_left
                focus (intro w9 hS9; clear hS9; go_simp; (try with_reducible rfl))
                (try simp only [Act.put])
                (try simp only [List.setIfInBounds_toArray])
                (repeat (first | simp only [Z1] | simp only [Z2]))
                refine wpD_pure (i := 9) (v := ?_) rfl (by kernel_rfl) (fun _ _ _ h => h) (Or.inl ⟨by kernel_rfl, ?_⟩) ?_
                rotate_left
                focus (intro w9 hS9; clear hS9; go_simp; (try with_reducible rfl))
                (try simp only [Act.put])
                (try simp only [List.setIfInBounds_toArray])
                (repeat (first | simp only [Z1] | simp only [Z2]))
                obtain ⟨s0, s1', s2', s3', s4, s5, sf⟩ := blk6' M13.out
                obtain ⟨t0, t1', t2', t3', tf⟩ := blk4 M14.out
                have hn1 : ¬ (wf8.heap.size) = (w8.heap.size) := hne
                have hn2 : ¬ (w8.heap.size) = (wf8.heap.size) := fun e => hne e.symm
                refine wpD_ready (rs := [12]) (by kernel_rfl) (by kernel_rfl) ?_
                refine AllReadyD.cons rfl (fun K hK => ?_) AllReadyD.nil
                rw [if_pos (show _ = true by kernel_rfl)]
                go_simp
                refine hK.out _ _ ⟨fun h => absurd h (by decide), fun h => absurd h (by decide)⟩ (fun _ => ?_)
                clear hK K
                refine wpD_ready (rs := [13]) (by kernel_rfl) (by kernel_rfl) ?_
                refine AllReadyD.cons rfl (fun K hK => ?_) AllReadyD.nil
                rw [if_pos (show _ = true by kernel_rfl)]
                go_simp
                refine hK.out _ _ ⟨fun h => absurd h (by decide), fun h => absurd h (by decide)⟩ (fun _ => ?_)
                clear hK K
                refine wpD_ready (rs := [14]) (by kernel_rfl) (by kernel_rfl) ?_
                refine AllReadyD.cons rfl (fun K hK => ?_) AllReadyD.nil
                rw [if_pos (show _ = true by kernel_rfl)]
                go_simp
                refine hK.out _ _ ⟨fun h => absurd h (by decide), fun h => absurd h (by decide)⟩ (fun _ => ?_)
                clear hK K
                refine wpD_done (by kernel_rfl) ?_
                go_wp2_with (fail)
                go_meet
                have HFE := fixR_end (n := w.heap.size) (c := b8) (f0 := .string fp.fr) (f1 := .string fp.to) (f2 := .int .i64 fp.sq) (f3 := .slice av fp.rs.length cv) HW.out hl13 hl14 hne M13.out HQ9.out (fun k hk => ⟨hk.1, by first | exact hk.2.1 | (have := hk.1.1; omega), by first | exact hk.2.2 | (have := hk.1.1; omega)⟩) HC.out
                exact ⟨_, _, _, _, _, _, _, rfl, rfl, HFE.1, HFE.2.1, HFE.2.2⟩
          · rw [if_pos (show _ = true by kernel_rfl)]
            go_simp
            clear hHeld
            refine hK.out _ _ ⟨fun _ => (by (repeat (first | (with_reducible exact Below.refl _ _) | (with_reducible exact HW.out) | (with_reducible apply bl_drewN) | (with_reducible apply bl_alloc) | (with_reducible apply Below.drew))); done), fun h => absurd h (by decide)⟩ (fun hHeld0 => ?_)
            have hHeld := hHeld0.1 rfl
            clear hHeld0 hK K
            have hbA : Below w7.heap.size w7 (w7.alloc (.cells #[.string ⟨#[]⟩, .int .i64 0, .int .i64 0, .slice none 0 0, .slice none 0 0, .slice none 0 0] 29)) := bl_alloc HW.out _
            have hmA := alloc1_0 w7 (.cells #[.string ⟨#[]⟩, .int .i64 0, .int .i64 0, .slice none 0 0, .slice none 0 0, .slice none 0 0] 29)
            have hl13 : w7.heap.size ≤ w7.heap.size := HW.out.size
            obtain ⟨wp11, hwN⟩ : ∃ wN, w7.alloc (.cells #[.string ⟨#[]⟩, .int .i64 0, .int .i64 0, .slice none 0 0, .slice none 0 0, .slice none 0 0] 29) = wN := ⟨_, rfl⟩
            rw [hwN] at hbA hmA hHeld ⊢
            clear hwN HW
            have HW := Lib.hid hbA
            have M13 := Lib.hid hmA
            clear hbA hmA
            refine wpD_ready (rs := [4, 11]) (by kernel_rfl) (by kernel_rfl) ?_
            refine AllReadyD.cons rfl (fun K hK => ?_) (AllReadyD.cons rfl (fun K hK => ?_) (AllReadyD.nil))
            · rw [if_pos (show _ = true by kernel_rfl)]
              go_simp
              go_wp2_with (
                go_at_call 34
                refine (HCC.out _ (by (repeat (first | (with_reducible exact Below.refl _ _) | (with_reducible exact HW.out) | (with_reducible apply bl_drewN) | (with_reducible apply bl_alloc) | (with_reducible apply Below.drew))); done)).mono ?_
                rintro e w8 ⟨⟨vc, rfl, hvc⟩, hb9⟩
                obtain ⟨a8, c8, rfl, -, -⟩ := hvc.form
                have HVC := Lib.hid hvc.sl
                have HB8 := Lib.hid (Below.refl w8.heap.size w8)
                have hm13 := Go.Tw.Below.at_old hb9 M13.out
                have M13' := Lib.hid (show w8.heap[(w7.heap.size)]? = some (.cells #[.string ⟨#[]⟩, .int .i64 0, .int .i64 0, .slice none 0 0, .slice none 0 0, .slice none 0 0] 29 (0, 0)) from hm13)
                have HP1 := Lib.hid (show Below w7.heap.size w7 w8 from by (refine bl_trans ?_ hb9; exact (by (repeat (first | (with_reducible exact Below.refl _ _) | (with_reducible exact HW.out) | (with_reducible apply bl_drewN) | (with_reducible apply bl_alloc) | (with_reducible apply Below.drew))); done)))
                clear HW hb9 hvc M13 hm13
                have HW := HP1
                have M13 := M13'
                clear M13'
                clear HP1)
              clear hHeld
              refine hK.out _ _ ⟨fun _ => HW.out, fun h => absurd h (by decide)⟩ (fun hHeld0 => ?_)
              have hHeld := hHeld0.1 rfl
              clear hHeld0 hK K
              refine wpD_ready (rs := [5, 11]) (by kernel_rfl) (by kernel_rfl) ?_
              refine AllReadyD.cons rfl (fun K hK => ?_) (AllReadyD.cons rfl (fun K hK => ?_) (AllReadyD.nil))
              · rw [if_pos (show _ = true by kernel_rfl)]
                go_simp
                go_wp2_with (
                  go_at_call 25
                  refine (HSD.out _ _ (by (repeat (first | (with_reducible exact Below.refl _ _) | (with_reducible exact HW.out) | (with_reducible apply bl_drewN) | (with_reducible apply bl_alloc) | (with_reducible apply Below.drew))); done) (HVC.out.step (show Below w8.heap.size w8 _ from by (repeat (first | (with_reducible exact HB8.out) | (with_reducible apply bl_drewN) | (with_reducible apply Below.drew)))))).mono ?_
                  rintro e w9 ⟨⟨p1, s1, p2, s2, p3, s3, av, cv, rfl, hq9⟩, hb9⟩
                  have hlt := HK7.out.lt
                  have hW7 := HW.out.size
                  have hW9 : w8.heap.size ≤ w9.heap.size := hb9.size
                  have hl13' := lt_of_heap M13.out
                  have HQ9 := Lib.hid (hq9.keep (S' := fun k => MB w.heap.size b8 w9 k ∧ k ≠ (w7.heap.size) ∧ True) (w' := w9) (fun k hk => by
                    rcases hk with hk | hk
                    · have h0 := hk.1
                      exact ⟨MB.up (by omega) k hk, by first | trivial | omega, by first | trivial | omega⟩
                    · have h1 : w8.heap.size ≤ k := hk.1
                      exact ⟨⟨hk.2, .inr (by omega), by omega, by omega⟩, by first | trivial | omega, by first | trivial | omega⟩) (SameOn.refl _ _))
                  have hm13 := Go.Tw.Below.at_old hb9 M13.out
                  have M13' := Lib.hid (show w9.heap[(w7.heap.size)]? = some (.cells #[.string ⟨#[]⟩, .int .i64 0, .int .i64 0, .slice none 0 0, .slice none 0 0, .slice none 0 0] 29 (0, 0)) from hm13)
                  have HC := Lib.hid (Below.refl w9.heap.size w9)
                  have HP1 := Lib.hid (show Below w7.heap.size w7 w9 from by (refine bl_trans ?_ hb9; exact (by (repeat (first | (with_reducible exact Below.refl _ _) | (with_reducible exact HW.out) | (with_reducible apply bl_drewN) | (with_reducible apply bl_alloc) | (with_reducible apply Below.drew))); done)))
                  clear HW HVC HB8 hb9 hq9 hlt hW7 hW9 M13 hm13 hl13'
                  have HW := HP1
                  have M13 := M13'
                  clear M13'
                  clear HP1)
                clear hHeld
                refine hK.out _ _ ⟨fun _ => HW.out, fun h => absurd h (by decide)⟩ (fun hHeld0 => ?_)
                have hHeld := hHeld0.1 rfl
                clear hHeld0 hK K
                refine wpD_take (i := 6) (v := ?_) rfl (by kernel_rfl) (fun _ _ _ h => h) (Or.inl ⟨by kernel_rfl, ?_⟩) (by assumption) ?_
                rotate_left
                focus (intro w9 hS9; (try dsimp only at hS9); go_simp; (try with_reducible rfl))
                (try simp only [Act.put])
                (try simp only [List.setIfInBounds_toArray])
                (repeat (first | simp only [Z1] | simp only [Z2]))
                refine wpD_take (i := 7) (v := ?_) rfl (by kernel_rfl) (fun _ _ _ h => h) (Or.inl ⟨by kernel_rfl, ?_⟩) (by assumption) ?_
                rotate_left
                focus (intro w9 hS9; (try dsimp only at hS9); go_simp; (try with_reducible rfl))
                (try simp only [Act.put])
                (try simp only [List.setIfInBounds_toArray])
                (repeat (first | simp only [Z1] | simp only [Z2]))
                refine wpD_pure (i := 8) (v := ?_) rfl (by kernel_rfl) (fun _ _ _ h => h) (Or.inl ⟨by kernel_rfl, ?_⟩) ?_
                rotate_left
                focus (intro w9 hS9; clear hS9; go_simp; (try with_reducible rfl))
                (try simp only [Act.put])
                (try simp only [List.setIfInBounds_toArray])
                (repeat (first | simp only [Z1] | simp only [Z2]))
                refine wpD_pure (i := 9) (v := ?_) rfl (by kernel_rfl) (fun _ _ _ h => h) (Or.inl ⟨by kernel_rfl, ?_⟩) ?_
                rotate_left
                focus (intro w9 hS9; clear hS9; go_simp; (try with_reducible rfl))
                (try simp only [Act.put])
                (try simp only [List.setIfInBounds_toArray])
                (repeat (first | simp only [Z1] | simp only [Z2]))
                refine wpD_ready (rs := [11]) (by kernel_rfl) (by kernel_rfl) ?_
                refine AllReadyD.cons rfl (fun K hK => ?_) (AllReadyD.nil)
                rw [if_pos (show _ = true by kernel_rfl)]
                go_simp
                clear hHeld
                refine hK.out _ _ ⟨fun _ => (by (repeat (first | (with_reducible exact Below.refl _ _) | (with_reducible exact HW.out) | (with_reducible apply bl_drewN) | (with_reducible apply bl_alloc) | (with_reducible apply Below.drew))); done), fun h => absurd h (by decide)⟩ (fun hHeld0 => ?_)
                have hHeld := hHeld0.1 rfl
                clear hHeld0 hK K
                have hbA : Below w7.heap.size w7 (w9.alloc (.cells #[.string ⟨#[]⟩, .string ⟨#[]⟩, .int .i64 0, .slice none 0 0] 45)) := bl_alloc HW.out _
                have hmA := alloc1_0 w9 (.cells #[.string ⟨#[]⟩, .string ⟨#[]⟩, .int .i64 0, .slice none 0 0] 45)
                have hl14 : w7.heap.size ≤ w9.heap.size := HW.out.size
                have hmO := Go.Tw.Below.at_old (bl_alloc (Below.refl w9.heap.size w9) (.cells #[.string ⟨#[]⟩, .string ⟨#[]⟩, .int .i64 0, .slice none 0 0] 45)) M13.out
                have hnO : w7.heap.size < w9.heap.size := lt_of_heap M13.out
                have h9A : Below w9.heap.size w9 (w9.alloc (.cells #[.string ⟨#[]⟩, .string ⟨#[]⟩, .int .i64 0, .slice none 0 0] 45)) := bl_alloc HC.out _
                have hg14 : w9.heap.size ≤ w9.heap.size := HC.out.size
                obtain ⟨wf12, hwN⟩ : ∃ wN, w9.alloc (.cells #[.string ⟨#[]⟩, .string ⟨#[]⟩, .int .i64 0, .slice none 0 0] 45) = wN := ⟨_, rfl⟩
                rw [hwN] at hbA hmA hmO h9A hHeld ⊢
                have hne : w7.heap.size ≠ w9.heap.size := by omega
                clear hwN HW M13 HC
                have HW := Lib.hid hbA
                have M14 := Lib.hid hmA
                have M13 := Lib.hid hmO
                have HC := Lib.hid h9A
                clear hbA hmA hmO h9A hnO
                obtain ⟨s0, s1', s2', s3', s4, s5, sf⟩ := blk6' M13.out
                obtain ⟨t0, t1', t2', t3', tf⟩ := blk4 M14.out
                have hn1 : ¬ (w7.heap.size) = (w9.heap.size) := hne
                have hn2 : ¬ (w9.heap.size) = (w7.heap.size) := fun e => hne e.symm
                refine wpD_ready (rs := [12]) (by kernel_rfl) (by kernel_rfl) ?_
                refine AllReadyD.cons rfl (fun K hK => ?_) AllReadyD.nil
                rw [if_pos (show _ = true by kernel_rfl)]
                go_simp
                refine hK.out _ _ ⟨fun h => absurd h (by decide), fun h => absurd h (by decide)⟩ (fun _ => ?_)
                clear hK K
                refine wpD_ready (rs := [13]) (by kernel_rfl) (by kernel_rfl) ?_
                refine AllReadyD.cons rfl (fun K hK => ?_) AllReadyD.nil
                rw [if_pos (show _ = true by kernel_rfl)]
                go_simp
                refine hK.out _ _ ⟨fun h => absurd h (by decide), fun h => absurd h (by decide)⟩ (fun _ => ?_)
                clear hK K
                refine wpD_ready (rs := [14]) (by kernel_rfl) (by kernel_rfl) ?_
                refine AllReadyD.cons rfl (fun K hK => ?_) AllReadyD.nil
                rw [if_pos (show _ = true by kernel_rfl)]
                go_simp
                refine hK.out _ _ ⟨fun h => absurd h (by decide), fun h => absurd h (by decide)⟩ (fun _ => ?_)
                clear hK K
                refine wpD_done (by kernel_rfl) ?_
                go_wp2_with (fail)
                go_meet
                have HFE := fixR_end (n := w.heap.size) (c := b8) (f0 := .string fp.fr) (f1 := .string fp.to) (f2 := .int .i64 fp.sq) (f3 := .slice av fp.rs.length cv) HW.out hl13 hl14 hne M13.out HQ9.out (fun k hk => ⟨hk.1, by first | exact hk.2.1 | (have := hk.1.1; omega), by first | exact hk.2.2 | (have := hk.1.1; omega)⟩) HC.out
                exact ⟨_, _, _, _, _, _, _, rfl, rfl, HFE.1, HFE.2.1, HFE.2.2⟩
              · rw [if_pos (show _ = true by kernel_rfl)]
                go_simp
                clear hHeld
                refine hK.out _ _ ⟨fun _ => (by (repeat (first | (with_reducible exact Below.refl _ _) | (with_reducible exact HW.out) | (with_reducible apply bl_drewN) | (with_reducible apply bl_alloc) | (with_reducible apply Below.drew))); done), fun h => absurd h (by decide)⟩ (fun hHeld0 => ?_)
                have hHeld := hHeld0.1 rfl
                clear hHeld0 hK K
                have hbA : Below w7.heap.size w7 (w8.alloc (.cells #[.string ⟨#[]⟩, .string ⟨#[]⟩, .int .i64 0, .slice none 0 0] 45)) := bl_alloc HW.out _
                have hmA := alloc1_0 w8 (.cells #[.string ⟨#[]⟩, .string ⟨#[]⟩, .int .i64 0, .slice none 0 0] 45)
                have hl14 : w7.heap.size ≤ w8.heap.size := HW.out.size
                have hmO := Go.Tw.Below.at_old (bl_alloc (Below.refl w8.heap.size w8) (.cells #[.string ⟨#[]⟩, .string ⟨#[]⟩, .int .i64 0, .slice none 0 0] 45)) M13.out
                have hnO : w7.heap.size < w8.heap.size := lt_of_heap M13.out
                have h8A : Below w8.heap.size w8 (w8.alloc (.cells #[.string ⟨#[]⟩, .string ⟨#[]⟩, .int .i64 0, .slice none 0 0] 45)) := bl_alloc HB8.out _
                obtain ⟨wf13, hwN⟩ : ∃ wN, w8.alloc (.cells #[.string ⟨#[]⟩, .string ⟨#[]⟩, .int .i64 0, .slice none 0 0] 45) = wN := ⟨_, rfl⟩
                rw [hwN] at hbA hmA hmO h8A hHeld ⊢
                have hne : w7.heap.size ≠ w8.heap.size := by omega
                clear hwN HW M13 HB8
                have HW := Lib.hid hbA
                have M14 := Lib.hid hmA
                have M13 := Lib.hid hmO
                have HB8 := Lib.hid h8A
                clear hbA hmA hmO h8A hnO
                refine wpD_ready (rs := [5]) (by kernel_rfl) (by kernel_rfl) ?_
                refine AllReadyD.cons rfl (fun K hK => ?_) (AllReadyD.nil)
                rw [if_pos (show _ = true by kernel_rfl)]
                go_simp
                go_wp2_with (
                  go_at_call 25
                  refine (HSD.out _ _ (by (repeat (first | (with_reducible exact Below.refl _ _) | (with_reducible exact HW.out) | (with_reducible apply bl_drewN) | (with_reducible apply bl_alloc) | (with_reducible apply Below.drew))); done) (HVC.out.step (show Below w8.heap.size w8 _ from by (repeat (first | (with_reducible exact HB8.out) | (with_reducible apply bl_drewN) | (with_reducible apply Below.drew)))))).mono ?_
                  rintro e w9 ⟨⟨p1, s1, p2, s2, p3, s3, av, cv, rfl, hq9⟩, hb9⟩
                  have hlt := HK7.out.lt
                  have hW7 := HW.out.size
                  have hW9 : wf13.heap.size ≤ w9.heap.size := hb9.size
                  have hl13' := lt_of_heap M13.out
                  have hl14' := lt_of_heap M14.out
                  have HQ9 := Lib.hid (hq9.keep (S' := fun k => MB w.heap.size b8 w9 k ∧ k ≠ (w7.heap.size) ∧ k ≠ (w8.heap.size)) (w' := w9) (fun k hk => by
                    rcases hk with hk | hk
                    · have h0 := hk.1
                      exact ⟨MB.up (by omega) k hk, by first | trivial | omega, by first | trivial | omega⟩
                    · have h1 : wf13.heap.size ≤ k := hk.1
                      exact ⟨⟨hk.2, .inr (by omega), by omega, by omega⟩, by first | trivial | omega, by first | trivial | omega⟩) (SameOn.refl _ _))
                  have hm13 := Go.Tw.Below.at_old hb9 M13.out
                  have M13' := Lib.hid (show w9.heap[(w7.heap.size)]? = some (.cells #[.string ⟨#[]⟩, .int .i64 0, .int .i64 0, .slice none 0 0, .slice none 0 0, .slice none 0 0] 29 (0, 0)) from hm13)
                  have hm14 := Go.Tw.Below.at_old hb9 M14.out
                  have M14' := Lib.hid (show w9.heap[(w8.heap.size)]? = some (.cells #[.string ⟨#[]⟩, .string ⟨#[]⟩, .int .i64 0, .slice none 0 0] 45 (0, 0)) from hm14)
                  have HC := Lib.hid (Below.refl w9.heap.size w9)
                  have HP1 := Lib.hid (show Below w7.heap.size w7 w9 from by (refine bl_trans ?_ hb9; exact (by (repeat (first | (with_reducible exact Below.refl _ _) | (with_reducible exact HW.out) | (with_reducible apply bl_drewN) | (with_reducible apply bl_alloc) | (with_reducible apply Below.drew))); done)))
                  clear HW HVC HB8 hb9 hq9 hlt hW7 hW9 M13 hm13 hl13' M14 hm14 hl14'
                  have HW := HP1
                  have M13 := M13'
                  clear M13'
                  have M14 := M14'
                  clear M14'
                  clear HP1)
                clear hHeld
                refine hK.out _ _ ⟨fun _ => HW.out, fun h => absurd h (by decide)⟩ (fun hHeld0 => ?_)
                have hHeld := hHeld0.1 rfl
                clear hHeld0 hK K
                refine wpD_take (i := 6) (v := ?_) rfl (by kernel_rfl) (fun _ _ _ h => h) (Or.inl ⟨by kernel_rfl, ?_⟩) (by assumption) ?_
                rotate_left
                focus (intro w9 hS9; (try dsimp only at hS9); go_simp; (try with_reducible rfl))
                (try simp only [Act.put])
                (try simp only [List.setIfInBounds_toArray])
                (repeat (first | simp only [Z1] | simp only [Z2]))
                refine wpD_take (i := 7) (v := ?_) rfl (by kernel_rfl) (fun _ _ _ h => h) (Or.inl ⟨by kernel_rfl, ?_⟩) (by assumption) ?_
                rotate_left
                focus (intro w9 hS9; (try dsimp only at hS9); go_simp; (try with_reducible rfl))
                (try simp only [Act.put])
                (try simp only [List.setIfInBounds_toArray])
                (repeat (first | simp only [Z1] | simp only [Z2]))
                refine wpD_pure (i := 8) (v := ?_) rfl (by kernel_rfl) (fun _ _ _ h => h) (Or.inl ⟨by kernel_rfl, ?_⟩) ?_
                rotate_left
                focus (intro w9 hS9; clear hS9; go_simp; (try with_reducible rfl))
                (try simp only [Act.put])
                (try simp only [List.setIfInBounds_toArray])
                (repeat (first | simp only [Z1] | simp only [Z2]))
                refine wpD_pure (i := 9) (v := ?_) rfl (by kernel_rfl) (fun _ _ _ h => h) (Or.inl ⟨by kernel_rfl, ?_⟩) ?_
                rotate_left
                focus (intro w9 hS9; clear hS9; go_simp; (try with_reducible rfl))
                (try simp only [Act.put])
                (try simp only [List.setIfInBounds_toArray])
                (repeat (first | simp only [Z1] | simp only [Z2]))
                obtain ⟨s0, s1', s2', s3', s4, s5, sf⟩ := blk6' M13.out
                obtain ⟨t0, t1', t2', t3', tf⟩ := blk4 M14.out
                have hn1 : ¬ (w7.heap.size) = (w8.heap.size) := hne
                have hn2 : ¬ (w8.heap.size) = (w7.heap.size) := fun e => hne e.symm
                refine wpD_ready (rs := [12]) (by kernel_rfl) (by kernel_rfl) ?_
                refine AllReadyD.cons rfl (fun K hK => ?_) AllReadyD.nil
                rw [if_pos (show _ = true by kernel_rfl)]
                go_simp
                refine hK.out _ _ ⟨fun h => absurd h (by decide), fun h => absurd h (by decide)⟩ (fun _ => ?_)
                clear hK K
                refine wpD_ready (rs := [13]) (by kernel_rfl) (by kernel_rfl) ?_
                refine AllReadyD.cons rfl (fun K hK => ?_) AllReadyD.nil
                rw [if_pos (show _ = true by kernel_rfl)]
                go_simp
                refine hK.out _ _ ⟨fun h => absurd h (by decide), fun h => absurd h (by decide)⟩ (fun _ => ?_)
                clear hK K
                refine wpD_ready (rs := [14]) (by kernel_rfl) (by kernel_rfl) ?_
                refine AllReadyD.cons rfl (fun K hK => ?_) AllReadyD.nil
                rw [if_pos (show _ = true by kernel_rfl)]
                go_simp
                refine hK.out _ _ ⟨fun h => absurd h (by decide), fun h => absurd h (by decide)⟩ (fun _ => ?_)
                clear hK K
                refine wpD_done (by kernel_rfl) ?_
                go_wp2_with (fail)
                go_meet
                have HFE := fixR_end (n := w.heap.size) (c := b8) (f0 := .string fp.fr) (f1 := .string fp.to) (f2 := .int .i64 fp.sq) (f3 := .slice av fp.rs.length cv) HW.out hl13 hl14 hne M13.out HQ9.out (fun k hk => ⟨hk.1, by first | exact hk.2.1 | (have := hk.1.1; omega), by first | exact hk.2.2 | (have := hk.1.1; omega)⟩) HC.out
                exact ⟨_, _, _, _, _, _, _, rfl, rfl, HFE.1, HFE.2.1, HFE.2.2⟩
            · rw [if_pos (show _ = true by kernel_rfl)]
              go_simp
              clear hHeld
              refine hK.out _ _ ⟨fun _ => (by (repeat (first | (with_reducible exact Below.refl _ _) | (with_reducible exact HW.out) | (with_reducible apply bl_drewN) | (with_reducible apply bl_alloc) | (with_reducible apply Below.drew))); done), fun h => absurd h (by decide)⟩ (fun hHeld0 => ?_)
              have hHeld := hHeld0.1 rfl
              clear hHeld0 hK K
              have hbA : Below w7.heap.size w7 (wp11.alloc (.cells #[.string ⟨#[]⟩, .string ⟨#[]⟩, .int .i64 0, .slice none 0 0] 45)) := bl_alloc HW.out _
              have hmA := alloc1_0 wp11 (.cells #[.string ⟨#[]⟩, .string ⟨#[]⟩, .int .i64 0, .slice none 0 0] 45)
              have hl14 : w7.heap.size ≤ wp11.heap.size := HW.out.size
              have hmO := Go.Tw.Below.at_old (bl_alloc (Below.refl wp11.heap.size wp11) (.cells #[.string ⟨#[]⟩, .string ⟨#[]⟩, .int .i64 0, .slice none 0 0] 45)) M13.out
              have hnO : w7.heap.size < wp11.heap.size := lt_of_heap M13.out
              obtain ⟨wf14, hwN⟩ : ∃ wN, wp11.alloc (.cells #[.string ⟨#[]⟩, .string ⟨#[]⟩, .int .i64 0, .slice none 0 0] 45) = wN := ⟨_, rfl⟩
              rw [hwN] at hbA hmA hmO hHeld ⊢
              have hne : w7.heap.size ≠ wp11.heap.size := by omega
              clear hwN HW M13
              have HW := Lib.hid hbA
              have M14 := Lib.hid hmA
              have M13 := Lib.hid hmO
              clear hbA hmA hmO hnO
              refine wpD_ready (rs := [4]) (by kernel_rfl) (by kernel_rfl) ?_
              refine AllReadyD.cons rfl (fun K hK => ?_) (AllReadyD.nil)
              rw [if_pos (show _ = true by kernel_rfl)]
              go_simp
              go_wp2_with (
                go_at_call 34
                refine (HCC.out _ (by (repeat (first | (with_reducible exact Below.refl _ _) | (with_reducible exact HW.out) | (with_reducible apply bl_drewN) | (with_reducible apply bl_alloc) | (with_reducible apply Below.drew))); done)).mono ?_
                rintro e w8 ⟨⟨vc, rfl, hvc⟩, hb9⟩
                obtain ⟨a8, c8, rfl, -, -⟩ := hvc.form
                have HVC := Lib.hid hvc.sl
                have HB8 := Lib.hid (Below.refl w8.heap.size w8)
                have hm13 := Go.Tw.Below.at_old hb9 M13.out
                have M13' := Lib.hid (show w8.heap[(w7.heap.size)]? = some (.cells #[.string ⟨#[]⟩, .int .i64 0, .int .i64 0, .slice none 0 0, .slice none 0 0, .slice none 0 0] 29 (0, 0)) from hm13)
                have hm14 := Go.Tw.Below.at_old hb9 M14.out
                have M14' := Lib.hid (show w8.heap[(wp11.heap.size)]? = some (.cells #[.string ⟨#[]⟩, .string ⟨#[]⟩, .int .i64 0, .slice none 0 0] 45 (0, 0)) from hm14)
                have HP1 := Lib.hid (show Below w7.heap.size w7 w8 from by (refine bl_trans ?_ hb9; exact (by (repeat (first | (with_reducible exact Below.refl _ _) | (with_reducible exact HW.out) | (with_reducible apply bl_drewN) | (with_reducible apply bl_alloc) | (with_reducible apply Below.drew))); done)))
                clear HW hb9 hvc M13 hm13 M14 hm14
                have HW := HP1
                have M13 := M13'
                clear M13'
                have M14 := M14'
                clear M14'
                clear HP1)
              clear hHeld
              refine hK.out _ _ ⟨fun _ => HW.out, fun h => absurd h (by decide)⟩ (fun hHeld0 => ?_)
              have hHeld := hHeld0.1 rfl
              clear hHeld0 hK K
              refine wpD_ready (rs := [5]) (by kernel_rfl) (by kernel_rfl) ?_
              refine AllReadyD.cons rfl (fun K hK => ?_) (AllReadyD.nil)
              rw [if_pos (show _ = true by kernel_rfl)]
              go_simp
              go_wp2_with (
                go_at_call 25
                refine (HSD.out _ _ (by (repeat (first | (with_reducible exact Below.refl _ _) | (with_reducible exact HW.out) | (with_reducible apply bl_drewN) | (with_reducible apply bl_alloc) | (with_reducible apply Below.drew))); done) (HVC.out.step (show Below w8.heap.size w8 _ from by (repeat (first | (with_reducible exact HB8.out) | (with_reducible apply bl_drewN) | (with_reducible apply Below.drew)))))).mono ?_
                rintro e w9 ⟨⟨p1, s1, p2, s2, p3, s3, av, cv, rfl, hq9⟩, hb9⟩
                have hlt := HK7.out.lt
                have hW7 := HW.out.size
                have hW9 : w8.heap.size ≤ w9.heap.size := hb9.size
                have hl13' := lt_of_heap M13.out
                have hl14' := lt_of_heap M14.out
                have HQ9 := Lib.hid (hq9.keep (S' := fun k => MB w.heap.size b8 w9 k ∧ k ≠ (w7.heap.size) ∧ k ≠ (wp11.heap.size)) (w' := w9) (fun k hk => by
                  rcases hk with hk | hk
                  · have h0 := hk.1
                    exact ⟨MB.up (by omega) k hk, by first | trivial | omega, by first | trivial | omega⟩
                  · have h1 : w8.heap.size ≤ k := hk.1
                    exact ⟨⟨hk.2, .inr (by omega), by omega, by omega⟩, by first | trivial | omega, by first | trivial | omega⟩) (SameOn.refl _ _))
                have hm13 := Go.Tw.Below.at_old hb9 M13.out
                have M13' := Lib.hid (show w9.heap[(w7.heap.size)]? = some (.cells #[.string ⟨#[]⟩, .int .i64 0, .int .i64 0, .slice none 0 0, .slice none 0 0, .slice none 0 0] 29 (0, 0)) from hm13)
                have hm14 := Go.Tw.Below.at_old hb9 M14.out
                have M14' := Lib.hid (show w9.heap[(wp11.heap.size)]? = some (.cells #[.string ⟨#[]⟩, .string ⟨#[]⟩, .int .i64 0, .slice none 0 0] 45 (0, 0)) from hm14)
                have HC := Lib.hid (Below.refl w9.heap.size w9)
                have HP1 := Lib.hid (show Below w7.heap.size w7 w9 from by (refine bl_trans ?_ hb9; exact (by (repeat (first | (with_reducible exact Below.refl _ _) | (with_reducible exact HW.out) | (with_reducible apply bl_drewN) | (with_reducible apply bl_alloc) | (with_reducible apply Below.drew))); done)))
                clear HW HVC HB8 hb9 hq9 hlt hW7 hW9 M13 hm13 hl13' M14 hm14 hl14'
                have HW := HP1
                have M13 := M13'
                clear M13'
                have M14 := M14'
                clear M14'
                clear HP1)
              clear hHeld
              refine hK.out _ _ ⟨fun _ => HW.out, fun h => absurd h (by decide)⟩ (fun hHeld0 => ?_)
              have hHeld := hHeld0.1 rfl
              clear hHeld0 hK K
              refine wpD_take (i := 6) (v := ?_) rfl (by kernel_rfl) (fun _ _ _ h => h) (Or.inl ⟨by kernel_rfl, ?_⟩) (by assumption) ?_
              rotate_left
              focus (intro w9 hS9; (try dsimp only at hS9); go_simp; (try with_reducible rfl))
              (try simp only [Act.put])
              (try simp only [List.setIfInBounds_toArray])
              (repeat (first | simp only [Z1] | simp only [Z2]))
              refine wpD_take (i := 7) (v := ?_) rfl (by kernel_rfl) (fun _ _ _ h => h) (Or.inl ⟨by kernel_rfl, ?_⟩) (by assumption) ?_
              rotate_left
              focus (intro w9 hS9; (try dsimp only at hS9); go_simp; (try with_reducible rfl))
              (try simp only [Act.put])
              (try simp only [List.setIfInBounds_toArray])
              (repeat (first | simp only [Z1] | simp only [Z2]))
              refine wpD_pure (i := 8) (v := ?_) rfl (by kernel_rfl) (fun _ _ _ h => h) (Or.inl ⟨by kernel_rfl, ?_⟩) ?_
              rotate_left
              focus (intro w9 hS9; clear hS9; go_simp; (try with_reducible rfl))
              (try simp only [Act.put])
              (try simp only [List.setIfInBounds_toArray])
              (repeat (first | simp only [Z1] | simp only [Z2]))
              refine wpD_pure (i := 9) (v := ?_) rfl (by kernel_rfl) (fun _ _ _ h => h) (Or.inl ⟨by kernel_rfl, ?_⟩) ?_
              rotate_left
              focus (intro w9 hS9; clear hS9; go_simp; (try with_reducible rfl))
              (try simp only [Act.put])
              (try simp only [List.setIfInBounds_toArray])
              (repeat (first | simp only [Z1] | simp only [Z2]))
              obtain ⟨s0, s1', s2', s3', s4, s5, sf⟩ := blk6' M13.out
              obtain ⟨t0, t1', t2', t3', tf⟩ := blk4 M14.out
              have hn1 : ¬ (w7.heap.size) = (wp11.heap.size) := hne
              have hn2 : ¬ (wp11.heap.size) = (w7.heap.size) := fun e => hne e.symm
              refine wpD_ready (rs := [12]) (by kernel_rfl) (by kernel_rfl) ?_
              refine AllReadyD.cons rfl (fun K hK => ?_) AllReadyD.nil
              rw [if_pos (show _ = true by kernel_rfl)]
              go_simp
              refine hK.out _ _ ⟨fun h => absurd h (by decide), fun h => absurd h (by decide)⟩ (fun _ => ?_)
              clear hK K
              refine wpD_ready (rs := [13]) (by kernel_rfl) (by kernel_rfl) ?_
              refine AllReadyD.cons rfl (fun K hK => ?_) AllReadyD.nil
              rw [if_pos (show _ = true by kernel_rfl)]
              go_simp
              refine hK.out _ _ ⟨fun h => absurd h (by decide), fun h => absurd h (by decide)⟩ (fun _ => ?_)
              clear hK K
              refine wpD_ready (rs := [14]) (by kernel_rfl) (by kernel_rfl) ?_
              refine AllReadyD.cons rfl (fun K hK => ?_) AllReadyD.nil
              rw [if_pos (show _ = true by kernel_rfl)]
              go_simp
              refine hK.out _ _ ⟨fun h => absurd h (by decide), fun h => absurd h (by decide)⟩ (fun _ => ?_)
              clear hK K
              refine wpD_done (by kernel_rfl) ?_
              go_wp2_with (fail)
              go_meet
              have HFE := fixR_end (n := w.heap.size) (c := b8) (f0 := .string fp.fr) (f1 := .string fp.to) (f2 := .int .i64 fp.sq) (f3 := .slice av fp.rs.length cv) HW.out hl13 hl14 hne M13.out HQ9.out (fun k hk => ⟨hk.1, by first | exact hk.2.1 | (have := hk.1.1; omega), by first | exact hk.2.2 | (have := hk.1.1; omega)⟩) HC.out
              exact ⟨_, _, _, _, _, _, _, rfl, rfl, HFE.1, HFE.2.1, HFE.2.2⟩
          · rw [if_pos (show _ = true by kernel_rfl)]
            go_simp
            clear hHeld
            refine hK.out _ _ ⟨fun _ => (by (repeat (first | (with_reducible exact Below.refl _ _) | (with_reducible exact HW.out) | (with_reducible apply bl_drewN) | (with_reducible apply bl_alloc) | (with_reducible apply Below.drew))); done), fun h => absurd h (by decide)⟩ (fun hHeld0 => ?_)
            have hHeld := hHeld0.1 rfl
            clear hHeld0 hK K
            have hbA : Below w7.heap.size w7 (w7.alloc (.cells #[.string ⟨#[]⟩, .string ⟨#[]⟩, .int .i64 0, .slice none 0 0] 45)) := bl_alloc HW.out _
            have hmA := alloc1_0 w7 (.cells #[.string ⟨#[]⟩, .string ⟨#[]⟩, .int .i64 0, .slice none 0 0] 45)
            have hl14 : w7.heap.size ≤ w7.heap.size := HW.out.size
            obtain ⟨wf15, hwN⟩ : ∃ wN, w7.alloc (.cells #[.string ⟨#[]⟩, .string ⟨#[]⟩, .int .i64 0, .slice none 0 0] 45) = wN := ⟨_, rfl⟩
            rw [hwN] at hbA hmA hHeld ⊢
            clear hwN HW
            have HW := Lib.hid hbA
            have M14 := Lib.hid hmA
            clear hbA hmA
            refine wpD_ready (rs := [4, 10]) (by kernel_rfl) (by kernel_rfl) ?_
            refine AllReadyD.cons rfl (fun K hK => ?_) (AllReadyD.cons rfl (fun K hK => ?_) (AllReadyD.nil))
            · rw [if_pos (show _ = true by kernel_rfl)]
              go_simp
              go_wp2_with (
                go_at_call 34
                refine (HCC.out _ (by (repeat (first | (with_reducible exact Below.refl _ _) | (with_reducible exact HW.out) | (with_reducible apply bl_drewN) | (with_reducible apply bl_alloc) | (with_reducible apply Below.drew))); done)).mono ?_
                rintro e w8 ⟨⟨vc, rfl, hvc⟩, hb9⟩
                obtain ⟨a8, c8, rfl, -, -⟩ := hvc.form
                have HVC := Lib.hid hvc.sl
                have HB8 := Lib.hid (Below.refl w8.heap.size w8)
                have hm14 := Go.Tw.Below.at_old hb9 M14.out
                have M14' := Lib.hid (show w8.heap[(w7.heap.size)]? = some (.cells #[.string ⟨#[]⟩, .string ⟨#[]⟩, .int .i64 0, .slice none 0 0] 45 (0, 0)) from hm14)
                have HP1 := Lib.hid (show Below w7.heap.size w7 w8 from by (refine bl_trans ?_ hb9; exact (by (repeat (first | (with_reducible exact Below.refl _ _) | (with_reducible exact HW.out) | (with_reducible apply bl_drewN) | (with_reducible apply bl_alloc) | (with_reducible apply Below.drew))); done)))
                clear HW hb9 hvc M14 hm14
                have HW := HP1
                have M14 := M14'
                clear M14'
                clear HP1)
              clear hHeld
              refine hK.out _ _ ⟨fun _ => HW.out, fun h => absurd h (by decide)⟩ (fun hHeld0 => ?_)
              have hHeld := hHeld0.1 rfl
              clear hHeld0 hK K
              refine wpD_ready (rs := [5, 10]) (by kernel_rfl) (by kernel_rfl) ?_
              refine AllReadyD.cons rfl (fun K hK => ?_) (AllReadyD.cons rfl (fun K hK => ?_) (AllReadyD.nil))
              · rw [if_pos (show _ = true by kernel_rfl)]
                go_simp
                go_wp2_with (
                  go_at_call 25
                  refine (HSD.out _ _ (by (repeat (first | (with_reducible exact Below.refl _ _) | (with_reducible exact HW.out) | (with_reducible apply bl_drewN) | (with_reducible apply bl_alloc) | (with_reducible apply Below.drew))); done) (HVC.out.step (show Below w8.heap.size w8 _ from by (repeat (first | (with_reducible exact HB8.out) | (with_reducible apply bl_drewN) | (with_reducible apply Below.drew)))))).mono ?_
                  rintro e w9 ⟨⟨p1, s1, p2, s2, p3, s3, av, cv, rfl, hq9⟩, hb9⟩
                  have hlt := HK7.out.lt
                  have hW7 := HW.out.size
                  have hW9 : w8.heap.size ≤ w9.heap.size := hb9.size
                  have hl14' := lt_of_heap M14.out
                  have HQ9 := Lib.hid (hq9.keep (S' := fun k => MB w.heap.size b8 w9 k ∧ True ∧ k ≠ (w7.heap.size)) (w' := w9) (fun k hk => by
                    rcases hk with hk | hk
                    · have h0 := hk.1
                      exact ⟨MB.up (by omega) k hk, by first | trivial | omega, by first | trivial | omega⟩
                    · have h1 : w8.heap.size ≤ k := hk.1
                      exact ⟨⟨hk.2, .inr (by omega), by omega, by omega⟩, by first | trivial | omega, by first | trivial | omega⟩) (SameOn.refl _ _))
                  have hm14 := Go.Tw.Below.at_old hb9 M14.out
                  have M14' := Lib.hid (show w9.heap[(w7.heap.size)]? = some (.cells #[.string ⟨#[]⟩, .string ⟨#[]⟩, .int .i64 0, .slice none 0 0] 45 (0, 0)) from hm14)
                  have HC := Lib.hid (Below.refl w9.heap.size w9)
                  have HP1 := Lib.hid (show Below w7.heap.size w7 w9 from by (refine bl_trans ?_ hb9; exact (by (repeat (first | (with_reducible exact Below.refl _ _) | (with_reducible exact HW.out) | (with_reducible apply bl_drewN) | (with_reducible apply bl_alloc) | (with_reducible apply Below.drew))); done)))
                  clear HW HVC HB8 hb9 hq9 hlt hW7 hW9 M14 hm14 hl14'
                  have HW := HP1
                  have M14 := M14'
                  clear M14'
                  clear HP1)
                clear hHeld
                refine hK.out _ _ ⟨fun _ => HW.out, fun h => absurd h (by decide)⟩ (fun hHeld0 => ?_)
                have hHeld := hHeld0.1 rfl
                clear hHeld0 hK K
                refine wpD_take (i := 6) (v := ?_) rfl (by kernel_rfl) (fun _ _ _ h => h) (Or.inl ⟨by kernel_rfl, ?_⟩) (by assumption) ?_
                rotate_left
                focus (intro w9 hS9; (try dsimp only at hS9); go_simp; (try with_reducible rfl))
                (try simp only [Act.put])
                (try simp only [List.setIfInBounds_toArray])
                (repeat (first | simp only [Z1] | simp only [Z2]))
                refine wpD_take (i := 7) (v := ?_) rfl (by kernel_rfl) (fun _ _ _ h => h) (Or.inl ⟨by kernel_rfl, ?_⟩) (by assumption) ?_
                rotate_left
                focus (intro w9 hS9; (try dsimp only at hS9); go_simp; (try with_reducible rfl))
                (try simp only [Act.put])
                (try simp only [List.setIfInBounds_toArray])
                (repeat (first | simp only [Z1] | simp only [Z2]))
                refine wpD_pure (i := 8) (v := ?_) rfl (by kernel_rfl) (fun _ _ _ h => h) (Or.inl ⟨by kernel_rfl, ?_⟩) ?_
                rotate_left
                focus (intro w9 hS9; clear hS9; go_simp; (try with_reducible rfl))
                (try simp only [Act.put])
                (try simp only [List.setIfInBounds_toArray])
                (repeat (first | simp only [Z1] | simp only [Z2]))
                refine wpD_pure (i := 9) (v := ?_) rfl (by kernel_rfl) (fun _ _ _ h => h) (Or.inl ⟨by kernel_rfl, ?_⟩) ?_
                rotate_left
                focus (intro w9 hS9; clear hS9; go_simp; (try with_reducible rfl))
                (try simp only [Act.put])
                (try simp only [List.setIfInBounds_toArray])
                (repeat (first | simp only [Z1] | simp only [Z2]))
                refine wpD_ready (rs := [10]) (by kernel_rfl) (by kernel_rfl) ?_
                refine AllReadyD.cons rfl (fun K hK => ?_) (AllReadyD.nil)
                rw [if_pos (show _ = true by kernel_rfl)]
                go_simp
                clear hHeld
                refine hK.out _ _ ⟨fun _ => (by (repeat (first | (with_reducible exact Below.refl _ _) | (with_reducible exact HW.out) | (with_reducible apply bl_drewN) | (with_reducible apply bl_alloc) | (with_reducible apply Below.drew))); done), fun h => absurd h (by decide)⟩ (fun hHeld0 => ?_)
                have hHeld := hHeld0.1 rfl
                clear hHeld0 hK K
                have hbA : Below w7.heap.size w7 (w9.alloc (.cells #[.string ⟨#[]⟩, .int .i64 0, .int .i64 0, .slice none 0 0, .slice none 0 0, .slice none 0 0] 29)) := bl_alloc HW.out _
                have hmA := alloc1_0 w9 (.cells #[.string ⟨#[]⟩, .int .i64 0, .int .i64 0, .slice none 0 0, .slice none 0 0, .slice none 0 0] 29)
                have hl13 : w7.heap.size ≤ w9.heap.size := HW.out.size
                have hmO := Go.Tw.Below.at_old (bl_alloc (Below.refl w9.heap.size w9) (.cells #[.string ⟨#[]⟩, .int .i64 0, .int .i64 0, .slice none 0 0, .slice none 0 0, .slice none 0 0] 29)) M14.out
                have hnO : w7.heap.size < w9.heap.size := lt_of_heap M14.out
                have h9A : Below w9.heap.size w9 (w9.alloc (.cells #[.string ⟨#[]⟩, .int .i64 0, .int .i64 0, .slice none 0 0, .slice none 0 0, .slice none 0 0] 29)) := bl_alloc HC.out _
                have hg13 : w9.heap.size ≤ w9.heap.size := HC.out.size
                obtain ⟨wp16, hwN⟩ : ∃ wN, w9.alloc (.cells #[.string ⟨#[]⟩, .int .i64 0, .int .i64 0, .slice none 0 0, .slice none 0 0, .slice none 0 0] 29) = wN := ⟨_, rfl⟩
                rw [hwN] at hbA hmA hmO h9A hHeld ⊢
                have hne : w9.heap.size ≠ w7.heap.size := by omega
                clear hwN HW M14 HC
                have HW := Lib.hid hbA
                have M13 := Lib.hid hmA
                have M14 := Lib.hid hmO
                have HC := Lib.hid h9A
                clear hbA hmA hmO h9A hnO
                obtain ⟨s0, s1', s2', s3', s4, s5, sf⟩ := blk6' M13.out
                obtain ⟨t0, t1', t2', t3', tf⟩ := blk4 M14.out
                have hn1 : ¬ (w9.heap.size) = (w7.heap.size) := hne
                have hn2 : ¬ (w7.heap.size) = (w9.heap.size) := fun e => hne e.symm
                refine wpD_ready (rs := [12]) (by kernel_rfl) (by kernel_rfl) ?_
                refine AllReadyD.cons rfl (fun K hK => ?_) AllReadyD.nil
                rw [if_pos (show _ = true by kernel_rfl)]
                go_simp
                refine hK.out _ _ ⟨fun h => absurd h (by decide), fun h => absurd h (by decide)⟩ (fun _ => ?_)
                clear hK K
                refine wpD_ready (rs := [13]) (by kernel_rfl) (by kernel_rfl) ?_
                refine AllReadyD.cons rfl (fun K hK => ?_) AllReadyD.nil
                rw [if_pos (show _ = true by kernel_rfl)]
                go_simp
                refine hK.out _ _ ⟨fun h => absurd h (by decide), fun h => absurd h (by decide)⟩ (fun _ => ?_)
                clear hK K
                refine wpD_ready (rs := [14]) (by kernel_rfl) (by kernel_rfl) ?_
                refine AllReadyD.cons rfl (fun K hK => ?_) AllReadyD.nil
                rw [if_pos (show _ = true by kernel_rfl)]
                go_simp
                refine hK.out _ _ ⟨fun h => absurd h (by decide), fun h => absurd h (by decide)⟩ (fun _ => ?_)
                clear hK K
                refine wpD_done (by kernel_rfl) ?_
                go_wp2_with (fail)
                go_meet
                have HFE := fixR_end (n := w.heap.size) (c := b8) (f0 := .string fp.fr) (f1 := .string fp.to) (f2 := .int .i64 fp.sq) (f3 := .slice av fp.rs.length cv) HW.out hl13 hl14 hne M13.out HQ9.out (fun k hk => ⟨hk.1, by first | exact hk.2.1 | (have := hk.1.1; omega), by first | exact hk.2.2 | (have := hk.1.1; omega)⟩) HC.out
                exact ⟨_, _, _, _, _, _, _, rfl, rfl, HFE.1, HFE.2.1, HFE.2.2⟩
              · rw [if_pos (show _ = true by kernel_rfl)]
                go_simp
                clear hHeld
                refine hK.out _ _ ⟨fun _ => (by (repeat (first | (with_reducible exact Below.refl _ _) | (with_reducible exact HW.out) | (with_reducible apply bl_drewN) | (with_reducible apply bl_alloc) | (with_reducible apply Below.drew))); done), fun h => absurd h (by decide)⟩ (fun hHeld0 => ?_)
                have hHeld := hHeld0.1 rfl
                clear hHeld0 hK K
                have hbA : Below w7.heap.size w7 (w8.alloc (.cells #[.string ⟨#[]⟩, .int .i64 0, .int .i64 0, .slice none 0 0, .slice none 0 0, .slice none 0 0] 29)) := bl_alloc HW.out _
                have hmA := alloc1_0 w8 (.cells #[.string ⟨#[]⟩, .int .i64 0, .int .i64 0, .slice none 0 0, .slice none 0 0, .slice none 0 0] 29)
                have hl13 : w7.heap.size ≤ w8.heap.size := HW.out.size
                have hmO := Go.Tw.Below.at_old (bl_alloc (Below.refl w8.heap.size w8) (.cells #[.string ⟨#[]⟩, .int .i64 0, .int .i64 0, .slice none 0 0, .slice none 0 0, .slice none 0 0] 29)) M14.out
                have hnO : w7.heap.size < w8.heap.size := lt_of_heap M14.out
                have h8A : Below w8.heap.size w8 (w8.alloc (.cells #[.string ⟨#[]⟩, .int .i64 0, .int .i64 0, .slice none 0 0, .slice none 0 0, .slice none 0 0] 29)) := bl_alloc HB8.out _
                obtain ⟨wp17, hwN⟩ : ∃ wN, w8.alloc (.cells #[.string ⟨#[]⟩, .int .i64 0, .int .i64 0, .slice none 0 0, .slice none 0 0, .slice none 0 0] 29) = wN := ⟨_, rfl⟩
                rw [hwN] at hbA hmA hmO h8A hHeld ⊢
                have hne : w8.heap.size ≠ w7.heap.size := by omega
                clear hwN HW M14 HB8
                have HW := Lib.hid hbA
                have M13 := Lib.hid hmA
                have M14 := Lib.hid hmO
                have HB8 := Lib.hid h8A
                clear hbA hmA hmO h8A hnO
                refine wpD_ready (rs := [5]) (by kernel_rfl) (by kernel_rfl) ?_
                refine AllReadyD.cons rfl (fun K hK => ?_) (AllReadyD.nil)
                rw [if_pos (show _ = true by kernel_rfl)]
                go_simp
                go_wp2_with (
                  go_at_call 25
                  refine (HSD.out _ _ (by (repeat (first | (with_reducible exact Below.refl _ _) | (with_reducible exact HW.out) | (with_reducible apply bl_drewN) | (with_reducible apply bl_alloc) | (with_reducible apply Below.drew))); done) (HVC.out.step (show Below w8.heap.size w8 _ from by (repeat (first | (with_reducible exact HB8.out) | (with_reducible apply bl_drewN) | (with_reducible apply Below.drew)))))).mono ?_
                  rintro e w9 ⟨⟨p1, s1, p2, s2, p3, s3, av, cv, rfl, hq9⟩, hb9⟩
                  have hlt := HK7.out.lt
                  have hW7 := HW.out.size
                  have hW9 : wp17.heap.size ≤ w9.heap.size := hb9.size
                  have hl13' := lt_of_heap M13.out
                  have hl14' := lt_of_heap M14.out
                  have HQ9 := Lib.hid (hq9.keep (S' := fun k => MB w.heap.size b8 w9 k ∧ k ≠ (w8.heap.size) ∧ k ≠ (w7.heap.size)) (w' := w9) (fun k hk => by
                    rcases hk with hk | hk
                    · have h0 := hk.1
                      exact ⟨MB.up (by omega) k hk, by first | trivial | omega, by first | trivial | omega⟩
                    · have h1 : wp17.heap.size ≤ k := hk.1
                      exact ⟨⟨hk.2, .inr (by omega), by omega, by omega⟩, by first | trivial | omega, by first | trivial | omega⟩) (SameOn.refl _ _))
                  have hm13 := Go.Tw.Below.at_old hb9 M13.out
                  have M13' := Lib.hid (show w9.heap[(w8.heap.size)]? = some (.cells #[.string ⟨#[]⟩, .int .i64 0, .int .i64 0, .slice none 0 0, .slice none 0 0, .slice none 0 0] 29 (0, 0)) from hm13)
                  have hm14 := Go.Tw.Below.at_old hb9 M14.out
                  have M14' := Lib.hid (show w9.heap[(w7.heap.size)]? = some (.cells #[.string ⟨#[]⟩, .string ⟨#[]⟩, .int .i64 0, .slice none 0 0] 45 (0, 0)) from hm14)
                  have HC := Lib.hid (Below.refl w9.heap.size w9)
                  have HP1 := Lib.hid (show Below w7.heap.size w7 w9 from by (refine bl_trans ?_ hb9; exact (by (repeat (first | (with_reducible exact Below.refl _ _) | (with_reducible exact HW.out) | (with_reducible apply bl_drewN) | (with_reducible apply bl_alloc) | (with_reducible apply Below.drew))); done)))
                  clear HW HVC HB8 hb9 hq9 hlt hW7 hW9 M13 hm13 hl13' M14 hm14 hl14'
                  have HW := HP1
                  have M13 := M13'
                  clear M13'
                  have M14 := M14'
                  clear M14'
                  clear HP1)
                clear hHeld
                refine hK.out _ _ ⟨fun _ => HW.out, fun h => absurd h (by decide)⟩ (fun hHeld0 => ?_)
                have hHeld := hHeld0.1 rfl
                clear hHeld0 hK K
                refine wpD_take (i := 6) (v := ?_) rfl (by kernel_rfl) (fun _ _ _ h => h) (Or.inl ⟨by kernel_rfl, ?_⟩) (by assumption) ?_
                rotate_left
                focus (intro w9 hS9; (try dsimp only at hS9); go_simp; (try with_reducible rfl))
                (try simp only [Act.put])
                (try simp only [List.setIfInBounds_toArray])
                (repeat (first | simp only [Z1] | simp only [Z2]))
                refine wpD_take (i := 7) (v := ?_) rfl (by kernel_rfl) (fun _ _ _ h => h) (Or.inl ⟨by kernel_rfl, ?_⟩) (by assumption) ?_
                rotate_left
                focus (intro w9 hS9; (try dsimp only at hS9); go_simp; (try with_reducible rfl))
                (try simp only [Act.put])
                (try simp only [List.setIfInBounds_toArray])
                (repeat (first | simp only [Z1] | simp only [Z2]))
                refine wpD_pure (i := 8) (v := ?_) rfl (by kernel_rfl) (fun _ _ _ h => h) (Or.inl ⟨by kernel_rfl, ?_⟩) ?_
                rotate_left
                focus (intro w9 hS9; clear hS9; go_simp; (try with_reducible rfl))
                (try simp only [Act.put])
                (try simp only [List.setIfInBounds_toArray])
                (repeat (first | simp only [Z1] | simp only [Z2]))
                refine wpD_pure (i := 9) (v := ?_) rfl (by kernel_rfl) (fun _ _ _ h => h) (Or.inl ⟨by kernel_rfl, ?_⟩) ?_
                rotate_left
                focus (intro w9 hS9; clear hS9; go_simp; (try with_reducible rfl))
                (try simp only [Act.put])
                (try simp only [List.setIfInBounds_toArray])
                (repeat (first | simp only [Z1] | simp only [Z2]))
                obtain ⟨s0, s1', s2', s3', s4, s5, sf⟩ := blk6' M13.out
                obtain ⟨t0, t1', t2', t3', tf⟩ := blk4 M14.out
                have hn1 : ¬ (w8.heap.size) = (w7.heap.size) := hne
                have hn2 : ¬ (w7.heap.size) = (w8.heap.size) := fun e => hne e.symm
                refine wpD_ready (rs := [12]) (by kernel_rfl) (by kernel_rfl) ?_
                refine AllReadyD.cons rfl (fun K hK => ?_) AllReadyD.nil
                rw [if_pos (show _ = true by kernel_rfl)]
                go_simp
                refine hK.out _ _ ⟨fun h => absurd h (by decide), fun h => absurd h (by decide)⟩ (fun _ => ?_)
                clear hK K
                refine wpD_ready (rs := [13]) (by kernel_rfl) (by kernel_rfl) ?_
                refine AllReadyD.cons rfl (fun K hK => ?_) AllReadyD.nil
                rw [if_pos (show _ = true by kernel_rfl)]
                go_simp
                refine hK.out _ _ ⟨fun h => absurd h (by decide), fun h => absurd h (by decide)⟩ (fun _ => ?_)
                clear hK K
                refine wpD_ready (rs := [14]) (by kernel_rfl) (by kernel_rfl) ?_
                refine AllReadyD.cons rfl (fun K hK => ?_) AllReadyD.nil
                rw [if_pos (show _ = true by kernel_rfl)]
                go_simp
                refine hK.out _ _ ⟨fun h => absurd h (by decide), fun h => absurd h (by decide)⟩ (fun _ => ?_)
                clear hK K
                refine wpD_done (by kernel_rfl) ?_
                go_wp2_with (fail)
                go_meet
                have HFE := fixR_end (n := w.heap.size) (c := b8) (f0 := .string fp.fr) (f1 := .string fp.to) (f2 := .int .i64 fp.sq) (f3 := .slice av fp.rs.length cv) HW.out hl13 hl14 hne M13.out HQ9.out (fun k hk => ⟨hk.1, by first | exact hk.2.1 | (have := hk.1.1; omega), by first | exact hk.2.2 | (have := hk.1.1; omega)⟩) HC.out
                exact ⟨_, _, _, _, _, _, _, rfl, rfl, HFE.1, HFE.2.1, HFE.2.2⟩
            · rw [if_pos (show _ = true by kernel_rfl)]
              go_simp
              clear hHeld
              refine hK.out _ _ ⟨fun _ => (by (repeat (first | (with_reducible exact Below.refl _ _) | (with_reducible exact HW.out) | (with_reducible apply bl_drewN) | (with_reducible apply bl_alloc) | (with_reducible apply Below.drew))); done), fun h => absurd h (by decide)⟩ (fun hHeld0 => ?_)
              have hHeld := hHeld0.1 rfl
              clear hHeld0 hK K
              have hbA : Below w7.heap.size w7 (wf15.alloc (.cells #[.string ⟨#[]⟩, .int .i64 0, .int .i64 0, .slice none 0 0, .slice none 0 0, .slice none 0 0] 29)) := bl_alloc HW.out _
              have hmA := alloc1_0 wf15 (.cells #[.string ⟨#[]⟩, .int .i64 0, .int .i64 0, .slice none 0 0, .slice none 0 0, .slice none 0 0] 29)
              have hl13 : w7.heap.size ≤ wf15.heap.size := HW.out.size
              have hmO := Go.Tw.Below.at_old (bl_alloc (Below.refl wf15.heap.size wf15) (.cells #[.string ⟨#[]⟩, .int .i64 0, .int .i64 0, .slice none 0 0, .slice none 0 0, .slice none 0 0] 29)) M14.out
              have hnO : w7.heap.size < wf15.heap.size := lt_of_heap M14.out
              obtain ⟨wp18, hwN⟩ : ∃ wN, wf15.alloc (.cells #[.string ⟨#[]⟩, .int .i64 0, .int .i64 0, .slice none 0 0, .slice none 0 0, .slice none 0 0] 29) = wN := ⟨_, rfl⟩
              rw [hwN] at hbA hmA hmO hHeld ⊢
              have hne : wf15.heap.size ≠ w7.heap.size := by omega
              clear hwN HW M14
              have HW := Lib.hid hbA
              have M13 := Lib.hid hmA
              have M14 := Lib.hid hmO
              clear hbA hmA hmO hnO
              refine wpD_ready (rs := [4]) (by kernel_rfl) (by kernel_rfl) ?_
              refine AllReadyD.cons rfl (fun K hK => ?_) (AllReadyD.nil)
              rw [if_pos (show _ = true by kernel_rfl)]
              go_simp
              go_wp2_with (
                go_at_call 34
                refine (HCC.out _ (by (repeat (first | (with_reducible exact Below.refl _ _) | (with_reducible exact HW.out) | (with_reducible apply bl_drewN) | (with_reducible apply bl_alloc) | (with_reducible apply Below.drew))); done)).mono ?_
                rintro e w8 ⟨⟨vc, rfl, hvc⟩, hb9⟩
                obtain ⟨a8, c8, rfl, -, -⟩ := hvc.form
                have HVC := Lib.hid hvc.sl
                have HB8 := Lib.hid (Below.refl w8.heap.size w8)
                have hm13 := Go.Tw.Below.at_old hb9 M13.out
                have M13' := Lib.hid (show w8.heap[(wf15.heap.size)]? = some (.cells #[.string ⟨#[]⟩, .int .i64 0, .int .i64 0, .slice none 0 0, .slice none 0 0, .slice none 0 0] 29 (0, 0)) from hm13)
                have hm14 := Go.Tw.Below.at_old hb9 M14.out
                have M14' := Lib.hid (show w8.heap[(w7.heap.size)]? = some (.cells #[.string ⟨#[]⟩, .string ⟨#[]⟩, .int .i64 0, .slice none 0 0] 45 (0, 0)) from hm14)
                have HP1 := Lib.hid (show Below w7.heap.size w7 w8 from by (refine bl_trans ?_ hb9; exact (by (repeat (first | (with_reducible exact Below.refl _ _) | (with_reducible exact HW.out) | (with_reducible apply bl_drewN) | (with_reducible apply bl_alloc) | (with_reducible apply Below.drew))); done)))
                clear HW hb9 hvc M13 hm13 M14 hm14
                have HW := HP1
                have M13 := M13'
                clear M13'
                have M14 := M14'
                clear M14'
                clear HP1)
              clear hHeld
              refine hK.out _ _ ⟨fun _ => HW.out, fun h => absurd h (by decide)⟩ (fun hHeld0 => ?_)
              have hHeld := hHeld0.1 rfl
              clear hHeld0 hK K
              refine wpD_ready (rs := [5]) (by kernel_rfl) (by kernel_rfl) ?_
              refine AllReadyD.cons rfl (fun K hK => ?_) (AllReadyD.nil)
              rw [if_pos (show _ = true by kernel_rfl)]
              go_simp
              go_wp2_with (
                go_at_call 25
                refine (HSD.out _ _ (by (repeat (first | (with_reducible exact Below.refl _ _) | (with_reducible exact HW.out) | (with_reducible apply bl_drewN) | (with_reducible apply bl_alloc) | (with_reducible apply Below.drew))); done) (HVC.out.step (show Below w8.heap.size w8 _ from by (repeat (first | (with_reducible exact HB8.out) | (with_reducible apply bl_drewN) | (with_reducible apply Below.drew)))))).mono ?_
                rintro e w9 ⟨⟨p1, s1, p2, s2, p3, s3, av, cv, rfl, hq9⟩, hb9⟩
                have hlt := HK7.out.lt
                have hW7 := HW.out.size
                have hW9 : w8.heap.size ≤ w9.heap.size := hb9.size
                have hl13' := lt_of_heap M13.out
                have hl14' := lt_of_heap M14.out
                have HQ9 := Lib.hid (hq9.keep (S' := fun k => MB w.heap.size b8 w9 k ∧ k ≠ (wf15.heap.size) ∧ k ≠ (w7.heap.size)) (w' := w9) (fun k hk => by
                  rcases hk with hk | hk
                  · have h0 := hk.1
                    exact ⟨MB.up (by omega) k hk, by first | trivial | omega, by first | trivial | omega⟩
                  · have h1 : w8.heap.size ≤ k := hk.1
                    exact ⟨⟨hk.2, .inr (by omega), by omega, by omega⟩, by first | trivial | omega, by first | trivial | omega⟩) (SameOn.refl _ _))
                have hm13 := Go.Tw.Below.at_old hb9 M13.out
                have M13' := Lib.hid (show w9.heap[(wf15.heap.size)]? = some (.cells #[.string ⟨#[]⟩, .int .i64 0, .int .i64 0, .slice none 0 0, .slice none 0 0, .slice none 0 0] 29 (0, 0)) from hm13)
                have hm14 := Go.Tw.Below.at_old hb9 M14.out
                have M14' := Lib.hid (show w9.heap[(w7.heap.size)]? = some (.cells #[.string ⟨#[]⟩, .string ⟨#[]⟩, .int .i64 0, .slice none 0 0] 45 (0, 0)) from hm14)
                have HC := Lib.hid (Below.refl w9.heap.size w9)
                have HP1 := Lib.hid (show Below w7.heap.size w7 w9 from by (refine bl_trans ?_ hb9; exact (by (repeat (first | (with_reducible exact Below.refl _ _) | (with_reducible exact HW.out) | (with_reducible apply bl_drewN) | (with_reducible apply bl_alloc) | (with_reducible apply Below.drew))); done)))
                clear HW HVC HB8 hb9 hq9 hlt hW7 hW9 M13 hm13 hl13' M14 hm14 hl14'
                have HW := HP1
                have M13 := M13'
                clear M13'
                have M14 := M14'
                clear M14'
                clear HP1)
              clear hHeld
              refine hK.out _ _ ⟨fun _ => HW.out, fun h => absurd h (by decide)⟩ (fun hHeld0 => ?_)
              have hHeld := hHeld0.1 rfl
              clear hHeld0 hK K
              refine wpD_take (i := 6) (v := ?_) rfl (by kernel_rfl) (fun _ _ _ h => h) (Or.inl ⟨by kernel_rfl, ?_⟩) (by assumption) ?_
              rotate_left
              focus (intro w9 hS9; (try dsimp only at hS9); go_simp; (try with_reducible rfl))
              (try simp only [Act.put])
              (try simp only [List.setIfInBounds_toArray])
              (repeat (first | simp only [Z1] | simp only [Z2]))
              refine wpD_take (i := 7) (v := ?_) rfl (by kernel_rfl) (fun _ _ _ h => h) (Or.inl ⟨by kernel_rfl, ?_⟩) (by assumption) ?_
              rotate_left
              focus (intro w9 hS9; (try dsimp only at hS9); go_simp; (try with_reducible rfl))
              (try simp only [Act.put])
              (try simp only [List.setIfInBounds_toArray])
              (repeat (first | simp only [Z1] | simp only [Z2]))
              refine wpD_pure (i := 8) (v := ?_) rfl (by kernel_rfl) (fun _ _ _ h => h) (Or.inl ⟨by kernel_rfl, ?_⟩) ?_
              rotate_left
              focus (intro w9 hS9; clear hS9; go_simp; (try with_reducible rfl))
              (try simp only [Act.put])
              (try simp only [List.setIfInBounds_toArray])
              (repeat (first | simp only [Z1] | simp only [Z2]))
              refine wpD_pure (i := 9) (v := ?_) rfl (by kernel_rfl) (fun _ _ _ h => h) (Or.inl ⟨by kernel_rfl, ?_⟩) ?_
              rotate_left
              focus (intro w9 hS9; clear hS9; go_simp; (try with_reducible rfl))
              (try simp only [Act.put])
              (try simp only [List.setIfInBounds_toArray])
              (repeat (first | simp only [Z1] | simp only [Z2]))
              obtain ⟨s0, s1', s2', s3', s4, s5, sf⟩ := blk6' M13.out
              obtain ⟨t0, t1', t2', t3', tf⟩ := blk4 M14.out
              have hn1 : ¬ (wf15.heap.size) = (w7.heap.size) := hne
              have hn2 : ¬ (w7.heap.size) = (wf15.heap.size) := fun e => hne e.symm
              refine wpD_ready (rs := [12]) (by kernel_rfl) (by kernel_rfl) ?_
              refine AllReadyD.cons rfl (fun K hK => ?_) AllReadyD.nil
              rw [if_pos (show _ = true by kernel_rfl)]
              go_simp
              refine hK.out _ _ ⟨fun h => absurd h (by decide), fun h => absurd h (by decide)⟩ (fun _ => ?_)
              clear hK K
              refine wpD_ready (rs := [13]) (by kernel_rfl) (by kernel_rfl) ?_
              refine AllReadyD.cons rfl (fun K hK => ?_) AllReadyD.nil
              rw [if_pos (show _ = true by kernel_rfl)]
              go_simp
              refine hK.out _ _ ⟨fun h => absurd h (by decide), fun h => absurd h (by decide)⟩ (fun _ => ?_)
              clear hK K
              refine wpD_ready (rs := [14]) (by kernel_rfl) (by kernel_rfl) ?_
              refine AllReadyD.cons rfl (fun K hK => ?_) AllReadyD.nil
              rw [if_pos (show _ = true by kernel_rfl)]
              go_simp
              refine hK.out _ _ ⟨fun h => absurd h (by decide), fun h => absurd h (by decide)⟩ (fun _ => ?_)
              clear hK K
              refine wpD_done (by kernel_rfl) ?_
              go_wp2_with (fail)
              go_meet
              have HFE := fixR_end (n := w.heap.size) (c := b8) (f0 := .string fp.fr) (f1 := .string fp.to) (f2 := .int .i64 fp.sq) (f3 := .slice av fp.rs.length cv) HW.out hl13 hl14 hne M13.out HQ9.out (fun k hk => ⟨hk.1, by first | exact hk.2.1 | (have := hk.1.1; omega), by first | exact hk.2.2 | (have := hk.1.1; omega)⟩) HC.out
              exact ⟨_, _, _, _, _, _, _, rfl, rfl, HFE.1, HFE.2.1, HFE.2.2⟩
        case rest =>
          obtain ⟨b13, p1, s1, p2, s2, p3, s3, rfl, rfl, h13, hbc, hpc⟩ := hcut
          have HB13 := Lib.hid h13
          have HP9 := Lib.hid hpc
          have HKC := Lib.hid (HK7.out.step hbc)
          have HEC := Lib.hid (HE2.out.keep (S' := MB w.heap.size b8 wc) (w' := wc) (MB.up hbc.size) (fun k hk => hbc.block k hk.1))
          clear h13 hpc hbc HX8 HXB HCC HSD HW
          by_cases q3 : er2 ≠ 0
          · have q3' : (er2 != 0) = true := by simpa using q3
            have HR := Lib.hid (show reconC a b = (a, b, 0, er2) from by rw [HRC.out, HF.out]; unfold rec2; rw [if_pos q3])
            clear q3
            go_upto_region 9 with (fail)
            have HRB := Lib.hid HKC.out.rb
            have hne1 : w.heap.size ≠ w.heap.size + 1 + 1 ∧ w.heap.size ≠ w.heap.size + 1 + 1 + 1 := by omega
            have hne2 : w.heap.size + 1 ≠ w.heap.size + 1 + 1 ∧ w.heap.size + 1 ≠ w.heap.size + 1 + 1 + 1 := by omega
            have HXA := Lib.hid (box6X HRB.out.pa hne1.1 hne1.2)
            have HXB := Lib.hid (box6X HRB.out.pb hne2.1 hne2.2)
            clear hne1 hne2
            refine wp_region_D (fun j => if j < 7 then 0 else if j < 7 then 1 else 2) (fun w' => KeepX (w.heap.size + 1 + 1) (w.heap.size + 1 + 1 + 1) _ w') (by kernel_rfl) (KeepX.drew (KeepX.refl _ _ _)) (fun hHeld => ?_)
            refine wpD_take (i := 0) (v := ?_) rfl (by kernel_rfl) (fun _ _ _ h => h) (Or.inl ⟨by kernel_rfl, ?_⟩) (by assumption) ?_
            rotate_left
            focus (intro w9 hS9; obtain ⟨z0, z1, z2, z3, z4, z5⟩ := HXA.out w9 hS9; clear hS9; go_simp; (try with_reducible rfl))
            (try simp only [Act.put])
            (try simp only [List.setIfInBounds_toArray])
            (repeat (first | simp only [Z1] | simp only [Z2]))
            refine wpD_take (i := 1) (v := ?_) rfl (by kernel_rfl) (fun _ _ _ h => h) (Or.inl ⟨by kernel_rfl, ?_⟩) (by assumption) ?_
            rotate_left
            focus (intro w9 hS9; obtain ⟨z0, z1, z2, z3, z4, z5⟩ := HXB.out w9 hS9; clear hS9; go_simp; (try with_reducible rfl))
            (try simp only [Act.put])
            (try simp only [List.setIfInBounds_toArray])
            (repeat (first | simp only [Z1] | simp only [Z2]))
            refine wpD_take (i := 2) (v := ?_) rfl (by kernel_rfl) (fun _ _ _ h => h) (Or.inl ⟨by kernel_rfl, ?_⟩) (by assumption) ?_
            rotate_left
            focus (intro w9 hS9; (try dsimp only at hS9); go_simp; (try with_reducible rfl))
            (try simp only [Act.put])
            (try simp only [List.setIfInBounds_toArray])
            (repeat (first | simp only [Z1] | simp only [Z2]))
            obtain ⟨s0, s1, s2, s3, s4, s5, sf⟩ := blk6' HRB.out.ra
            obtain ⟨t0, t1, t2, t3, t4, t5, tf⟩ := blk6' HRB.out.rb
            refine wpD_ready (rs := [3]) (by kernel_rfl) (by kernel_rfl) ?_
            refine AllReadyD.cons rfl (fun K hK => ?_) AllReadyD.nil
            rw [if_pos (show _ = true by kernel_rfl)]
            go_simp
            clear hHeld
            refine hK.out _ _ ⟨fun _ => (by with_reducible exact KeepX.drew (KeepX.set6 (KeepX.refl _ _ _) (.inl rfl))), fun h => absurd h (by decide)⟩ (fun hHeld0 => ?_)
            have hHeld := hHeld0.1 rfl
            clear hHeld0 hK K
            refine wpD_ready (rs := [4]) (by kernel_rfl) (by kernel_rfl) ?_
            refine AllReadyD.cons rfl (fun K hK => ?_) AllReadyD.nil
            rw [if_pos (show _ = true by kernel_rfl)]
            go_simp
            clear hHeld
            refine hK.out _ _ ⟨fun _ => (by with_reducible exact KeepX.drew (KeepX.set6 (KeepX.set6 (KeepX.refl _ _ _) (.inl rfl)) (.inr rfl))), fun h => absurd h (by decide)⟩ (fun hHeld0 => ?_)
            have hHeld := hHeld0.1 rfl
            clear hHeld0 hK K
            refine wpD_ready (rs := [5]) (by kernel_rfl) (by kernel_rfl) ?_
            refine AllReadyD.cons rfl (fun K hK => ?_) AllReadyD.nil
            rw [if_pos (show _ = true by kernel_rfl)]
            go_simp
            clear hHeld
            refine hK.out _ _ ⟨fun _ => (by with_reducible exact KeepX.drew (KeepX.set6 (KeepX.set6 (KeepX.refl _ _ _) (.inl rfl)) (.inr rfl))), fun h => absurd h (by decide)⟩ (fun hHeld0 => ?_)
            have hHeld := hHeld0.1 rfl
            clear hHeld0 hK K
            refine wpD_ready (rs := [6]) (by kernel_rfl) (by kernel_rfl) ?_
            refine AllReadyD.cons rfl (fun K hK => ?_) AllReadyD.nil
            rw [if_pos (show _ = true by kernel_rfl)]
            go_simp
            clear hHeld
            refine hK.out _ _ ⟨fun _ => (by with_reducible exact KeepX.drew (KeepX.set6 (KeepX.set6 (KeepX.refl _ _ _) (.inl rfl)) (.inr rfl))), fun h => absurd h (by decide)⟩ (fun hHeld0 => ?_)
            have hHeld := hHeld0.1 rfl
            clear hHeld0 hK K
            refine wpD_done (by kernel_rfl) ?_
            go_wp2_with (fail)
            have h2 : w.heap.size ≤ w.heap.size + 1 + 1 := by omega
            have h3 : w.heap.size ≤ w.heap.size + 1 + 1 + 1 := by omega
            refine bodyPost_ret (v := .tuple #[.agg #[.string a.nm, .int .i64 a.out, .int .i64 a.inn, .slice x1 a.wt.length y1, .slice x2 a.ours.length y2, .slice x3 a.thr.length y3], .agg #[.string b.nm, .int .i64 b.out, .int .i64 b.inn, .slice z1 b.wt.length e1, .slice z2 b.ours.length e2, .slice z3 b.thr.length e3], .int .i64 0, .int .i64 er2])
              (by simp [results, Tryz.results12, go_sem, s0, s1, s2, s3, s4, s5, t0, t1, t2, t3, t4, t5]) rfl ?_
            refine And.intro ?_ ?_
            · refine rv4_mk HR.out ?_ ?_
              · refine HA.out.keep (fun k hk => ?_) (fun k hk => ?_)
                · refine Nat.lt_of_lt_of_le hk (Below.size (B := w.heap.size) (w := w) ?_)
                  with_reducible exact Below.drew (bl_set6 (bl_set6 HRB.out.bel h2) h3)
                · refine KeepX.at (w := _) (x := w.heap.size + 1 + 1) (y := w.heap.size + 1 + 1 + 1) ?_ HRB.out.bel hk h2 h3
                  with_reducible exact KeepX.drew (KeepX.set6 (KeepX.set6 (KeepX.refl _ _ _) (.inl rfl)) (.inr rfl))
              · refine HB.out.keep (fun k hk => ?_) (fun k hk => ?_)
                · refine Nat.lt_of_lt_of_le hk (Below.size (B := w.heap.size) (w := w) ?_)
                  with_reducible exact Below.drew (bl_set6 (bl_set6 HRB.out.bel h2) h3)
                · refine KeepX.at (w := _) (x := w.heap.size + 1 + 1) (y := w.heap.size + 1 + 1 + 1) ?_ HRB.out.bel hk h2 h3
                  with_reducible exact KeepX.drew (KeepX.set6 (KeepX.set6 (KeepX.refl _ _ _) (.inl rfl)) (.inr rfl))
            · with_reducible exact Below.drew (bl_set6 (bl_set6 HRB.out.bel h2) h3)
          · obtain rfl : er2 = 0 := by omega
            have q3' : ((0 : Int) != 0) = false := by decide
            clear q3
            obtain ⟨c0', c1', c2', c3', c4', c5', cf'⟩ := blk6' HKC.out.px
            obtain ⟨d0', d1', d2', d3', d4', d5', df'⟩ := blk6' HB13.out
            have HY9 := Lib.hid (HKC.out.setx hc8 HP9.out)
            go_wp2_with (fail)
            go_meet
            exact ⟨xp, _, _, _, _, _, _, rfl, HF.out, HY9.out, HEC.out.keep (MB.up (by simp)) (fun k hk => set6_ne hk.2.2.1)⟩
    case rest =>
      obtain ⟨x', p1, p2, p3, s1, s2, s3, rfl, hfx, hkb, he2⟩ := hcut
      have HFX := Lib.hid hfx
      have HZX' := Lib.hid (show SzP (k + 2 * 164) (n + 2 * 164) (m + k) x' from by
        have := HZX.out.fix b.nm (L := L1) (d := 164) hl1
        rw [hfx] at this
        exact this)
      have HNX' := Lib.hid (show x'.nm = a.nm from by have := fix_nm x b.nm L1; rw [hfx] at this; exact this.trans HNX.out)
      clear HK7 HE1 HE2 HZX HNX HNY hfx hx8 hw6q
      have HK7 := Lib.hid hkb
      have HE2 := Lib.hid he2
      clear hkb he2
      go_upto_if 58 with (fail)
      go_cut [10] (fun v10 wx => ∃ (y' : Par) (r1 r2 r3 : Option Addr) (t1 t2 t3 : Nat), v10 = .int .i64 0 ∧ fixC y a.nm L2 = (y', 0) ∧ KB w a b x' y' (.slice x1 a.wt.length y1) (.slice x2 a.ours.length y2) (.slice x3 a.thr.length y3) (.slice z1 b.wt.length e1) (.slice z2 b.ours.length e2) (.slice z3 b.thr.length e3) (.slice p1 x'.wt.length s1) (.slice p2 x'.ours.length s2) (.slice p3 x'.thr.length s3) (.slice r1 y'.wt.length t1) (.slice r2 y'.ours.length t2) (.slice r3 y'.thr.length t3) b8 wx)
      case first =>
        obtain ⟨wd, hwd⟩ : ∃ wd, wc = wd := ⟨_, rfl⟩
        rw [hwd] at HK7 HE2 ⊢
        clear hwd wc
        by_cases q2 : L2.length = 0
        · have q2' : ¬ (0 : Int) < (L2.length : Int) := by omega
          have HF := Lib.hid (show fixC y a.nm L2 = (y, 0) from by unfold fixC; rw [if_pos q2])
          clear q2
          go_wp2_with (fail)
          go_meet
          exact ⟨y, _, _, _, _, _, _, rfl, HF.out, HK7.out⟩
        · have q2' : (0 : Int) < (L2.length : Int) := by omega
          obtain ⟨yp, fp, er2, hse⟩ : ∃ yp fp er2, sendC y a.nm (correctC L2) = (yp, fp, er2) := ⟨_, _, _, rfl⟩
          have HF := Lib.hid (show fixC y a.nm L2 = (yp, er2) from by unfold fixC; rw [if_neg q2, hse])
          have HX8 := Lib.hid (box6D HK7.out.py)
          have HXB := Lib.hid (box6D HK7.out.px)
          have HCC := Lib.hid (show ∀ W', Below wd.heap.size wd W' → Calls Tryz.prog 34 #[.slice d2 L2.length k2] W' fun e w' => (∃ v', e = .returned v' ∧ OwnSl tRec 49 W'.heap.size w' v' (correctC L2)) ∧ Below W'.heap.size W' w' from fun W' hW => correctR_any L2 _ W' ((HE2.out.keep (S' := (· < wd.heap.size)) (fun k hk => hk.1) (SameOn.refl _ _)).step hW) (by omega))
          have HSD := Lib.hid (show ∀ W' vc, Below wd.heap.size wd W' → SlIs tRec (· < W'.heap.size) W' vc (correctC L2) → Calls Tryz.prog 25 #[.agg #[.string y.nm, .int .i64 y.out, .int .i64 y.inn, .slice g1 y.wt.length h1, .slice g2 y.ours.length h2, .slice g3 y.thr.length h3], .string x'.nm, vc] W'
              fun e w' => (∃ p1 s1 p2 s2 p3 s3 av cv, e = .returned (.tuple #[.agg #[.string yp.nm, .int .i64 yp.out, .int .i64 yp.inn, .slice p1 yp.wt.length s1, .slice p2 yp.ours.length s2, .slice p3 yp.thr.length s3], .agg #[.string fp.fr, .string fp.to, .int .i64 fp.sq, .slice av fp.rs.length cv], .int .i64 er2]) ∧
                ParOk (fun k => MB w.heap.size b8 wd k ∨ (W'.heap.size ≤ k ∧ k < w'.heap.size)) w' yp (.slice p1 yp.wt.length s1) (.slice p2 yp.ours.length s2) (.slice p3 yp.thr.length s3)) ∧ Below W'.heap.size W' w' from fun W' vc hW hvc => by
            rw [HNX'.out]
            refine (sendR_gen (MB w.heap.size b8 wd) y a.nm (correctC L2) _ _ _ vc W' (HK7.out.oy.keep (fun _ h => h) (fun k hk => hW.block k hk.1)) (fun k hk => Nat.lt_of_lt_of_le hk.1 hW.size) (HZY.out.small (by omega) (by omega) (by omega)) HNM.out.1 hvc (by have := correct_len L2; omega)).mono ?_
            rintro e w' ⟨he, hb'⟩
            obtain ⟨p1, s1, p2, s2, p3, s3, av, cv, rfl, hq⟩ := he.formR
            rw [hse] at hq ⊢
            exact ⟨⟨p1, s1, p2, s2, p3, s3, av, cv, rfl, hq⟩, hb'⟩)
          have HW := Lib.hid (Below.refl wd.heap.size wd)
          clear q2 hse
          go_upto_region 12 with (fail)
          go_cut [16, 18] (fun v13 v15 wx => ∃ (b13 : Nat) (p1 : Option Addr) (s1 : Nat) (p2 : Option Addr) (s2 : Nat) (p3 : Option Addr) (s3 : Nat), v13 = .pointer (some ⟨b13, 0, none⟩) ∧ v15 = .int .i64 er2 ∧ wx.heap[b13]? = some (.cells #[.string yp.nm, .int .i64 yp.out, .int .i64 yp.inn, .slice p1 yp.wt.length s1, .slice p2 yp.ours.length s2, .slice p3 yp.thr.length s3] 29 (0, 0)) ∧ Below wd.heap.size wd wx ∧ ParOk (MB w.heap.size b8 wx) wx yp (.slice p1 yp.wt.length s1) (.slice p2 yp.ours.length s2) (.slice p3 yp.thr.length s3))
          case first =>
            clear HE2 HF
            refine wp_region_D (fun j => if j < 8 then 0 else if j < 10 then 1 else if j < 12 then 0 else 2) (fun w' => Below wd.heap.size wd w') (by kernel_rfl) ((by (repeat (first | (with_reducible exact Below.refl _ _) | (with_reducible exact HW.out) | (with_reducible apply bl_drewN) | (with_reducible apply bl_alloc) | (with_reducible apply Below.drew))); done)) (fun hHeld => ?_)
            refine wpD_take (i := 0) (v := ?_) rfl (by kernel_rfl) (fun _ _ _ h => h) (Or.inl ⟨by kernel_rfl, ?_⟩) (by assumption) ?_
            rotate_left
            focus (intro w9 hS9; obtain ⟨z0, z1, z2, z3, z4, z5⟩ := HX8.out w9 hS9; clear hS9; go_simp; (try with_reducible rfl))
            (try simp only [Act.put])
            (try simp only [List.setIfInBounds_toArray])
            (repeat (first | simp only [Z1] | simp only [Z2]))
            refine wpD_take (i := 1) (v := ?_) rfl (by kernel_rfl) (fun _ _ _ h => h) (Or.inl ⟨by kernel_rfl, ?_⟩) (by assumption) ?_
            rotate_left
            focus (intro w9 hS9; (try dsimp only at hS9); go_simp; (try with_reducible rfl))
            (try simp only [Act.put])
            (try simp only [List.setIfInBounds_toArray])
            (repeat (first | simp only [Z1] | simp only [Z2]))
            refine wpD_take (i := 2) (v := ?_) rfl (by kernel_rfl) (fun _ _ _ h => h) (Or.inl ⟨by kernel_rfl, ?_⟩) (by assumption) ?_
            rotate_left
            focus (intro w9 hS9; obtain ⟨z0, z1, z2, z3, z4, z5⟩ := HXB.out w9 hS9; clear hS9; go_simp; (try with_reducible rfl))
            (try simp only [Act.put])
            (try simp only [List.setIfInBounds_toArray])
            (repeat (first | simp only [Z1] | simp only [Z2]))
            refine wpD_take (i := 3) (v := ?_) rfl (by kernel_rfl) (fun _ _ _ h => h) (Or.inl ⟨by kernel_rfl, ?_⟩) (by assumption) ?_
            rotate_left
            focus (intro w9 hS9; (try dsimp only at hS9); go_simp; (try with_reducible rfl))
            (try simp only [Act.put])
            (try simp only [List.setIfInBounds_toArray])
            (repeat (first | simp only [Z1] | simp only [Z2]))
            refine wpD_ready (rs := [4, 10, 11]) (by kernel_rfl) (by kernel_rfl) ?_
            refine AllReadyD.cons rfl (fun K hK => ?_) (AllReadyD.cons rfl (fun K hK => ?_) (AllReadyD.cons rfl (fun K hK => ?_) (AllReadyD.nil)))
            · rw [if_pos (show _ = true by kernel_rfl)]
              go_simp
              go_wp2_with (
                go_at_call 34
                refine (HCC.out _ (by (repeat (first | (with_reducible exact Below.refl _ _) | (with_reducible exact HW.out) | (with_reducible apply bl_drewN) | (with_reducible apply bl_alloc) | (with_reducible apply Below.drew))); done)).mono ?_
                rintro e w8 ⟨⟨vc, rfl, hvc⟩, hb9⟩
                obtain ⟨a8, c8, rfl, -, -⟩ := hvc.form
                have HVC := Lib.hid hvc.sl
                have HB8 := Lib.hid (Below.refl w8.heap.size w8)
                have HP1 := Lib.hid (show Below wd.heap.size wd w8 from by (refine bl_trans ?_ hb9; exact (by (repeat (first | (with_reducible exact Below.refl _ _) | (with_reducible exact HW.out) | (with_reducible apply bl_drewN) | (with_reducible apply bl_alloc) | (with_reducible apply Below.drew))); done)))
                clear HW hb9 hvc
                have HW := HP1
                clear HP1)
              clear hHeld
              refine hK.out _ _ ⟨fun _ => HW.out, fun h => absurd h (by decide)⟩ (fun hHeld0 => ?_)
              have hHeld := hHeld0.1 rfl
              clear hHeld0 hK K
              refine wpD_ready (rs := [5, 10, 11]) (by kernel_rfl) (by kernel_rfl) ?_
              refine AllReadyD.cons rfl (fun K hK => ?_) (AllReadyD.cons rfl (fun K hK => ?_) (AllReadyD.cons rfl (fun K hK => ?_) (AllReadyD.nil)))
              · rw [if_pos (show _ = true by kernel_rfl)]
                go_simp
                go_wp2_with (
                  go_at_call 25
                  refine (HSD.out _ _ (by (repeat (first | (with_reducible exact Below.refl _ _) | (with_reducible exact HW.out) | (with_reducible apply bl_drewN) | (with_reducible apply bl_alloc) | (with_reducible apply Below.drew))); done) (HVC.out.step (show Below w8.heap.size w8 _ from by (repeat (first | (with_reducible exact HB8.out) | (with_reducible apply bl_drewN) | (with_reducible apply Below.drew)))))).mono ?_
                  rintro e w9 ⟨⟨p1, s1, p2, s2, p3, s3, av, cv, rfl, hq9⟩, hb9⟩
                  have hlt := HK7.out.lt
                  have hW7 := HW.out.size
                  have hW9 : w8.heap.size ≤ w9.heap.size := hb9.size
                  have HQ9 := Lib.hid (hq9.keep (S' := fun k => MB w.heap.size b8 w9 k ∧ True ∧ True) (w' := w9) (fun k hk => by
                    rcases hk with hk | hk
                    · have h0 := hk.1
                      exact ⟨MB.up (by omega) k hk, by first | trivial | omega, by first | trivial | omega⟩
                    · have h1 : w8.heap.size ≤ k := hk.1
                      exact ⟨⟨hk.2, .inr (by omega), by omega, by omega⟩, by first | trivial | omega, by first | trivial | omega⟩) (SameOn.refl _ _))
                  have HC := Lib.hid (Below.refl w9.heap.size w9)
                  have HP1 := Lib.hid (show Below wd.heap.size wd w9 from by (refine bl_trans ?_ hb9; exact (by (repeat (first | (with_reducible exact Below.refl _ _) | (with_reducible exact HW.out) | (with_reducible apply bl_drewN) | (with_reducible apply bl_alloc) | (with_reducible apply Below.drew))); done)))
                  clear HW HVC HB8 hb9 hq9 hlt hW7 hW9
                  have HW := HP1
                  clear HP1)
                clear hHeld
                refine hK.out _ _ ⟨fun _ => HW.out, fun h => absurd h (by decide)⟩ (fun hHeld0 => ?_)
                have hHeld := hHeld0.1 rfl
                clear hHeld0 hK K
                refine wpD_take (i := 6) (v := ?_) rfl (by kernel_rfl) (fun _ _ _ h => h) (Or.inl ⟨by kernel_rfl, ?_⟩) (by assumption) ?_
                rotate_left
                focus (intro w9 hS9; (try dsimp only at hS9); go_simp; (try with_reducible rfl))
                (try simp only [Act.put])
                (try simp only [List.setIfInBounds_toArray])
                (repeat (first | simp only [Z1] | simp only [Z2]))
                refine wpD_take (i := 7) (v := ?_) rfl (by kernel_rfl) (fun _ _ _ h => h) (Or.inl ⟨by kernel_rfl, ?_⟩) (by assumption) ?_
                rotate_left
                focus (intro w9 hS9; (try dsimp only at hS9); go_simp; (try with_reducible rfl))
                (try simp only [Act.put])
                (try simp only [List.setIfInBounds_toArray])
                (repeat (first | simp only [Z1] | simp only [Z2]))
                refine wpD_pure (i := 8) (v := ?_) rfl (by kernel_rfl) (fun _ _ _ h => h) (Or.inl ⟨by kernel_rfl, ?_⟩) ?_
                rotate_left
                focus (intro w9 hS9; clear hS9; go_simp; (try with_reducible rfl))
                (try simp only [Act.put])
                (try simp only [List.setIfInBounds_toArray])
                (repeat (first | simp only [Z1] | simp only [Z2]))
                refine wpD_pure (i := 9) (v := ?_) rfl (by kernel_rfl) (fun _ _ _ h => h) (Or.inl ⟨by kernel_rfl, ?_⟩) ?_
                rotate_left
                focus (intro w9 hS9; clear hS9; go_simp; (try with_reducible rfl))
                (try simp only [Act.put])
                (try simp only [List.setIfInBounds_toArray])
                (repeat (first | simp only [Z1] | simp only [Z2]))
                refine wpD_ready (rs := [10, 11]) (by kernel_rfl) (by kernel_rfl) ?_
                refine AllReadyD.cons rfl (fun K hK => ?_) (AllReadyD.cons rfl (fun K hK => ?_) (AllReadyD.nil))
                · rw [if_pos (show _ = true by kernel_rfl)]
                  go_simp
                  clear hHeld
                  refine hK.out _ _ ⟨fun _ => (by (repeat (first | (with_reducible exact Below.refl _ _) | (with_reducible exact HW.out) | (with_reducible apply bl_drewN) | (with_reducible apply bl_alloc) | (with_reducible apply Below.drew))); done), fun h => absurd h (by decide)⟩ (fun hHeld0 => ?_)
                  have hHeld := hHeld0.1 rfl
                  clear hHeld0 hK K
                  have hbA : Below wd.heap.size wd (w9.alloc (.cells #[.string ⟨#[]⟩, .int .i64 0, .int .i64 0, .slice none 0 0, .slice none 0 0, .slice none 0 0] 29)) := bl_alloc HW.out _
                  have hmA := alloc1_0 w9 (.cells #[.string ⟨#[]⟩, .int .i64 0, .int .i64 0, .slice none 0 0, .slice none 0 0, .slice none 0 0] 29)
                  have hl13 : wd.heap.size ≤ w9.heap.size := HW.out.size
                  have h9A : Below w9.heap.size w9 (w9.alloc (.cells #[.string ⟨#[]⟩, .int .i64 0, .int .i64 0, .slice none 0 0, .slice none 0 0, .slice none 0 0] 29)) := bl_alloc HC.out _
                  have hg13 : w9.heap.size ≤ w9.heap.size := HC.out.size
                  obtain ⟨wp1, hwN⟩ : ∃ wN, w9.alloc (.cells #[.string ⟨#[]⟩, .int .i64 0, .int .i64 0, .slice none 0 0, .slice none 0 0, .slice none 0 0] 29) = wN := ⟨_, rfl⟩
                  rw [hwN] at hbA hmA h9A hHeld ⊢
                  clear hwN HW HC
                  have HW := Lib.hid hbA
                  have M13 := Lib.hid hmA
                  have HC := Lib.hid h9A
                  clear hbA hmA h9A
                  refine wpD_ready (rs := [11]) (by kernel_rfl) (by kernel_rfl) ?_
                  refine AllReadyD.cons rfl (fun K hK => ?_) (AllReadyD.nil)
                  rw [if_pos (show _ = true by kernel_rfl)]
                  go_simp
                  clear hHeld
                  refine hK.out _ _ ⟨fun _ => (by (repeat (first | (with_reducible exact Below.refl _ _) | (with_reducible exact HW.out) | (with_reducible apply bl_drewN) | (with_reducible apply bl_alloc) | (with_reducible apply Below.drew))); done), fun h => absurd h (by decide)⟩ (fun hHeld0 => ?_)
                  have hHeld := hHeld0.1 rfl
                  clear hHeld0 hK K
                  have hbA : Below wd.heap.size wd (wp1.alloc (.cells #[.string ⟨#[]⟩, .string ⟨#[]⟩, .int .i64 0, .slice none 0 0] 45)) := bl_alloc HW.out _
                  have hmA := alloc1_0 wp1 (.cells #[.string ⟨#[]⟩, .string ⟨#[]⟩, .int .i64 0, .slice none 0 0] 45)
                  have hl14 : wd.heap.size ≤ wp1.heap.size := HW.out.size
                  have hmO := Go.Tw.Below.at_old (bl_alloc (Below.refl wp1.heap.size wp1) (.cells #[.string ⟨#[]⟩, .string ⟨#[]⟩, .int .i64 0, .slice none 0 0] 45)) M13.out
                  have hnO : w9.heap.size < wp1.heap.size := lt_of_heap M13.out
                  have h9A : Below w9.heap.size w9 (wp1.alloc (.cells #[.string ⟨#[]⟩, .string ⟨#[]⟩, .int .i64 0, .slice none 0 0] 45)) := bl_alloc HC.out _
                  have hg14 : w9.heap.size ≤ wp1.heap.size := HC.out.size
                  obtain ⟨wf2, hwN⟩ : ∃ wN, wp1.alloc (.cells #[.string ⟨#[]⟩, .string ⟨#[]⟩, .int .i64 0, .slice none 0 0] 45) = wN := ⟨_, rfl⟩
                  rw [hwN] at hbA hmA hmO h9A hHeld ⊢
                  have hne : w9.heap.size ≠ wp1.heap.size := by omega
                  clear hwN HW M13 HC
                  have HW := Lib.hid hbA
                  have M14 := Lib.hid hmA
                  have M13 := Lib.hid hmO
                  have HC := Lib.hid h9A
                  clear hbA hmA hmO h9A hnO
                  obtain ⟨s0, s1', s2', s3', s4, s5, sf⟩ := blk6' M13.out
                  obtain ⟨t0, t1', t2', t3', tf⟩ := blk4 M14.out
                  have hn1 : ¬ (w9.heap.size) = (wp1.heap.size) := hne
                  have hn2 : ¬ (wp1.heap.size) = (w9.heap.size) := fun e => hne e.symm
                  refine wpD_ready (rs := [12]) (by kernel_rfl) (by kernel_rfl) ?_
                  refine AllReadyD.cons rfl (fun K hK => ?_) AllReadyD.nil
                  rw [if_pos (show _ = true by kernel_rfl)]
                  go_simp
                  refine hK.out _ _ ⟨fun h => absurd h (by decide), fun h => absurd h (by decide)⟩ (fun _ => ?_)
                  clear hK K
                  refine wpD_ready (rs := [13]) (by kernel_rfl) (by kernel_rfl) ?_
                  refine AllReadyD.cons rfl (fun K hK => ?_) AllReadyD.nil
                  rw [if_pos (show _ = true by kernel_rfl)]
                  go_simp
                  refine hK.out _ _ ⟨fun h => absurd h (by decide), fun h => absurd h (by decide)⟩ (fun _ => ?_)
                  clear hK K
                  refine wpD_ready (rs := [14]) (by kernel_rfl) (by kernel_rfl) ?_
                  refine AllReadyD.cons rfl (fun K hK => ?_) AllReadyD.nil
                  rw [if_pos (show _ = true by kernel_rfl)]
                  go_simp
                  refine hK.out _ _ ⟨fun h => absurd h (by decide), fun h => absurd h (by decide)⟩ (fun _ => ?_)
                  clear hK K
                  refine wpD_done (by kernel_rfl) ?_
                  go_wp2_with (fail)
                  go_meet
                  have HFE := fixR_end (n := w.heap.size) (c := b8) (f0 := .string fp.fr) (f1 := .string fp.to) (f2 := .int .i64 fp.sq) (f3 := .slice av fp.rs.length cv) HW.out hl13 hl14 hne M13.out HQ9.out (fun k hk => ⟨hk.1, by first | exact hk.2.1 | (have := hk.1.1; omega), by first | exact hk.2.2 | (have := hk.1.1; omega)⟩) HC.out
                  exact ⟨_, _, _, _, _, _, _, rfl, rfl, HFE.1, HFE.2.1, HFE.2.2⟩
                · rw [if_pos (show _ = true by kernel_rfl)]
                  go_simp
                  clear hHeld
                  refine hK.out _ _ ⟨fun _ => (by (repeat (first | (with_reducible exact Below.refl _ _) | (with_reducible exact HW.out) | (with_reducible apply bl_drewN) | (with_reducible apply bl_alloc) | (with_reducible apply Below.drew))); done), fun h => absurd h (by decide)⟩ (fun hHeld0 => ?_)
                  have hHeld := hHeld0.1 rfl
                  clear hHeld0 hK K
                  have hbA : Below wd.heap.size wd (w9.alloc (.cells #[.string ⟨#[]⟩, .string ⟨#[]⟩, .int .i64 0, .slice none 0 0] 45)) := bl_alloc HW.out _
                  have hmA := alloc1_0 w9 (.cells #[.string ⟨#[]⟩, .string ⟨#[]⟩, .int .i64 0, .slice none 0 0] 45)
                  have hl14 : wd.heap.size ≤ w9.heap.size := HW.out.size
                  have h9A : Below w9.heap.size w9 (w9.alloc (.cells #[.string ⟨#[]⟩, .string ⟨#[]⟩, .int .i64 0, .slice none 0 0] 45)) := bl_alloc HC.out _
                  have hg14 : w9.heap.size ≤ w9.heap.size := HC.out.size
                  obtain ⟨wf3, hwN⟩ : ∃ wN, w9.alloc (.cells #[.string ⟨#[]⟩, .string ⟨#[]⟩, .int .i64 0, .slice none 0 0] 45) = wN := ⟨_, rfl⟩
                  rw [hwN] at hbA hmA h9A hHeld ⊢
                  clear hwN HW HC
                  have HW := Lib.hid hbA
                  have M14 := Lib.hid hmA
                  have HC := Lib.hid h9A
                  clear hbA hmA h9A
                  refine wpD_ready (rs := [10]) (by kernel_rfl) (by kernel_rfl) ?_
                  refine AllReadyD.cons rfl (fun K hK => ?_) (AllReadyD.nil)
                  rw [if_pos (show _ = true by kernel_rfl)]
                  go_simp
                  clear hHeld
                  refine hK.out _ _ ⟨fun _ => (by (repeat (first | (with_reducible exact Below.refl _ _) | (with_reducible exact HW.out) | (with_reducible apply bl_drewN) | (with_reducible apply bl_alloc) | (with_reducible apply Below.drew))); done), fun h => absurd h (by decide)⟩ (fun hHeld0 => ?_)
                  have hHeld := hHeld0.1 rfl
                  clear hHeld0 hK K
                  have hbA : Below wd.heap.size wd (wf3.alloc (.cells #[.string ⟨#[]⟩, .int .i64 0, .int .i64 0, .slice none 0 0, .slice none 0 0, .slice none 0 0] 29)) := bl_alloc HW.out _
                  have hmA := alloc1_0 wf3 (.cells #[.string ⟨#[]⟩, .int .i64 0, .int .i64 0, .slice none 0 0, .slice none 0 0, .slice none 0 0] 29)
                  have hl13 : wd.heap.size ≤ wf3.heap.size := HW.out.size
                  have hmO := Go.Tw.Below.at_old (bl_alloc (Below.refl wf3.heap.size wf3) (.cells #[.string ⟨#[]⟩, .int .i64 0, .int .i64 0, .slice none 0 0, .slice none 0 0, .slice none 0 0] 29)) M14.out
                  have hnO : w9.heap.size < wf3.heap.size := lt_of_heap M14.out
                  have h9A : Below w9.heap.size w9 (wf3.alloc (.cells #[.string ⟨#[]⟩, .int .i64 0, .int .i64 0, .slice none 0 0, .slice none 0 0, .slice none 0 0] 29)) := bl_alloc HC.out _
                  have hg13 : w9.heap.size ≤ wf3.heap.size := HC.out.size
                  obtain ⟨wp4, hwN⟩ : ∃ wN, wf3.alloc (.cells #[.string ⟨#[]⟩, .int .i64 0, .int .i64 0, .slice none 0 0, .slice none 0 0, .slice none 0 0] 29) = wN := ⟨_, rfl⟩
                  rw [hwN] at hbA hmA hmO h9A hHeld ⊢
                  have hne : wf3.heap.size ≠ w9.heap.size := by omega
                  clear hwN HW M14 HC
                  have HW := Lib.hid hbA
                  have M13 := Lib.hid hmA
                  have M14 := Lib.hid hmO
                  have HC := Lib.hid h9A
                  clear hbA hmA hmO h9A hnO
                  obtain ⟨s0, s1', s2', s3', s4, s5, sf⟩ := blk6' M13.out
                  obtain ⟨t0, t1', t2', t3', tf⟩ := blk4 M14.out
                  have hn1 : ¬ (wf3.heap.size) = (w9.heap.size) := hne
                  have hn2 : ¬ (w9.heap.size) = (wf3.heap.size) := fun e => hne e.symm
                  refine wpD_ready (rs := [12]) (by kernel_rfl) (by kernel_rfl) ?_
                  refine AllReadyD.cons rfl (fun K hK => ?_) AllReadyD.nil
                  rw [if_pos (show _ = true by kernel_rfl)]
                  go_simp
                  refine hK.out _ _ ⟨fun h => absurd h (by decide), fun h => absurd h (by decide)⟩ (fun _ => ?_)
                  clear hK K
                  refine wpD_ready (rs := [13]) (by kernel_rfl) (by kernel_rfl) ?_
                  refine AllReadyD.cons rfl (fun K hK => ?_) AllReadyD.nil
                  rw [if_pos (show _ = true by kernel_rfl)]
                  go_simp
                  refine hK.out _ _ ⟨fun h => absurd h (by decide), fun h => absurd h (by decide)⟩ (fun _ => ?_)
                  clear hK K
                  refine wpD_ready (rs := [14]) (by kernel_rfl) (by kernel_rfl) ?_
                  refine AllReadyD.cons rfl (fun K hK => ?_) AllReadyD.nil
                  rw [if_pos (show _ = true by kernel_rfl)]
                  go_simp
                  refine hK.out _ _ ⟨fun h => absurd h (by decide), fun h => absurd h (by decide)⟩ (fun _ => ?_)
                  clear hK K
                  refine wpD_done (by kernel_rfl) ?_
                  go_wp2_with (fail)
                  go_meet
                  have HFE := fixR_end (n := w.heap.size) (c := b8) (f0 := .string fp.fr) (f1 := .string fp.to) (f2 := .int .i64 fp.sq) (f3 := .slice av fp.rs.length cv) HW.out hl13 hl14 hne M13.out HQ9.out (fun k hk => ⟨hk.1, by first | exact hk.2.1 | (have := hk.1.1; omega), by first | exact hk.2.2 | (have := hk.1.1; omega)⟩) HC.out
                  exact ⟨_, _, _, _, _, _, _, rfl, rfl, HFE.1, HFE.2.1, HFE.2.2⟩
              · rw [if_pos (show _ = true by kernel_rfl)]
                go_simp
                clear hHeld
                refine hK.out _ _ ⟨fun _ => (by (repeat (first | (with_reducible exact Below.refl _ _) | (with_reducible exact HW.out) | (with_reducible apply bl_drewN) | (with_reducible apply bl_alloc) | (with_reducible apply Below.drew))); done), fun h => absurd h (by decide)⟩ (fun hHeld0 => ?_)
                have hHeld := hHeld0.1 rfl
                clear hHeld0 hK K
                have hbA : Below wd.heap.size wd (w8.alloc (.cells #[.string ⟨#[]⟩, .int .i64 0, .int .i64 0, .slice none 0 0, .slice none 0 0, .slice none 0 0] 29)) := bl_alloc HW.out _
                have hmA := alloc1_0 w8 (.cells #[.string ⟨#[]⟩, .int .i64 0, .int .i64 0, .slice none 0 0, .slice none 0 0, .slice none 0 0] 29)
                have hl13 : wd.heap.size ≤ w8.heap.size := HW.out.size
                have h8A : Below w8.heap.size w8 (w8.alloc (.cells #[.string ⟨#[]⟩, .int .i64 0, .int .i64 0, .slice none 0 0, .slice none 0 0, .slice none 0 0] 29)) := bl_alloc HB8.out _
                obtain ⟨wp5, hwN⟩ : ∃ wN, w8.alloc (.cells #[.string ⟨#[]⟩, .int .i64 0, .int .i64 0, .slice none 0 0, .slice none 0 0, .slice none 0 0] 29) = wN := ⟨_, rfl⟩
                rw [hwN] at hbA hmA h8A hHeld ⊢
                clear hwN HW HB8
                have HW := Lib.hid hbA
                have M13 := Lib.hid hmA
                have HB8 := Lib.hid h8A
                clear hbA hmA h8A
                refine wpD_ready (rs := [5, 11]) (by kernel_rfl) (by kernel_rfl) ?_
                refine AllReadyD.cons rfl (fun K hK => ?_) (AllReadyD.cons rfl (fun K hK => ?_) (AllReadyD.nil))
                · rw [if_pos (show _ = true by kernel_rfl)]
                  go_simp
                  go_wp2_with (
                    go_at_call 25
                    refine (HSD.out _ _ (by (repeat (first | (with_reducible exact Below.refl _ _) | (with_reducible exact HW.out) | (with_reducible apply bl_drewN) | (with_reducible apply bl_alloc) | (with_reducible apply Below.drew))); done) (HVC.out.step (show Below w8.heap.size w8 _ from by (repeat (first | (with_reducible exact HB8.out) | (with_reducible apply bl_drewN) | (with_reducible apply Below.drew)))))).mono ?_
                    rintro e w9 ⟨⟨p1, s1, p2, s2, p3, s3, av, cv, rfl, hq9⟩, hb9⟩
                    have hlt := HK7.out.lt
                    have hW7 := HW.out.size
                    have hW9 : wp5.heap.size ≤ w9.heap.size := hb9.size
                    have hl13' := lt_of_heap M13.out
                    have HQ9 := Lib.hid (hq9.keep (S' := fun k => MB w.heap.size b8 w9 k ∧ k ≠ (w8.heap.size) ∧ True) (w' := w9) (fun k hk => by
                      rcases hk with hk | hk
                      · have h0 := hk.1
                        exact ⟨MB.up (by omega) k hk, by first | trivial | omega, by first | trivial | omega⟩
                      · have h1 : wp5.heap.size ≤ k := hk.1
                        exact ⟨⟨hk.2, .inr (by omega), by omega, by omega⟩, by first | trivial | omega, by first | trivial | omega⟩) (SameOn.refl _ _))
                    have hm13 := Go.Tw.Below.at_old hb9 M13.out
                    have M13' := Lib.hid (show w9.heap[(w8.heap.size)]? = some (.cells #[.string ⟨#[]⟩, .int .i64 0, .int .i64 0, .slice none 0 0, .slice none 0 0, .slice none 0 0] 29 (0, 0)) from hm13)
                    have HC := Lib.hid (Below.refl w9.heap.size w9)
                    have HP1 := Lib.hid (show Below wd.heap.size wd w9 from by (refine bl_trans ?_ hb9; exact (by (repeat (first | (with_reducible exact Below.refl _ _) | (with_reducible exact HW.out) | (with_reducible apply bl_drewN) | (with_reducible apply bl_alloc) | (with_reducible apply Below.drew))); done)))
                    clear HW HVC HB8 hb9 hq9 hlt hW7 hW9 M13 hm13 hl13'
                    have HW := HP1
                    have M13 := M13'
                    clear M13'
                    clear HP1)
                  clear hHeld
                  refine hK.out _ _ ⟨fun _ => HW.out, fun h => absurd h (by decide)⟩ (fun hHeld0 => ?_)
                  have hHeld := hHeld0.1 rfl
                  clear hHeld0 hK K
                  refine wpD_take (i := 6) (v := ?_) rfl (by kernel_rfl) (fun _ _ _ h => h) (Or.inl ⟨by kernel_rfl, ?_⟩) (by assumption) ?_
                  rotate_left
                  focus (intro w9 hS9; (try dsimp only at hS9); go_simp; (try with_reducible rfl))
                  (try simp only [Act.put])
                  (try simp only [List.setIfInBounds_toArray])
                  (repeat (first | simp only [Z1] | simp only [Z2]))
                  refine wpD_take (i := 7) (v := ?_) rfl (by kernel_rfl) (fun _ _ _ h => h) (Or.inl ⟨by kernel_rfl, ?_⟩) (by assumption) ?_
                  rotate_left
                  focus (intro w9 hS9; (try dsimp only at hS9); go_simp; (try with_reducible rfl))
                  (try simp only [Act.put])
                  (try simp only [List.setIfInBounds_toArray])
                  (repeat (first | simp only [Z1] | simp only [Z2]))
                  refine wpD_pure (i := 8) (v := ?_) rfl (by kernel_rfl) (fun _ _ _ h => h) (Or.inl ⟨by kernel_rfl, ?_⟩) ?_
                  rotate_left
                  focus (intro w9 hS9; clear hS9; go_simp; (try with_reducible rfl))
                  (try simp only [Act.put])
                  (try simp only [List.setIfInBounds_toArray])
                  (repeat (first | simp only [Z1] | simp only [Z2]))
                  refine wpD_pure (i := 9) (v := ?_) rfl (by kernel_rfl) (fun _ _ _ h => h) (Or.inl ⟨by kernel_rfl, ?_⟩) ?_
                  rotate_left
                  focus (intro w9 hS9; clear hS9; go_simp; (try with_reducible rfl))
                  (try simp only [Act.put])
                  (try simp only [List.setIfInBounds_toArray])
                  (repeat (first | simp only [Z1] | simp only [Z2]))
                  refine wpD_ready (rs := [11]) (by kernel_rfl) (by kernel_rfl) ?_
                  refine AllReadyD.cons rfl (fun K hK => ?_) (AllReadyD.nil)
                  rw [if_pos (show _ = true by kernel_rfl)]
                  go_simp
                  clear hHeld
                  refine hK.out _ _ ⟨fun _ => (by (repeat (first | (with_reducible exact Below.refl _ _) | (with_reducible exact HW.out) | (with_reducible apply bl_drewN) | (with_reducible apply bl_alloc) | (with_reducible apply Below.drew))); done), fun h => absurd h (by decide)⟩ (fun hHeld0 => ?_)
                  have hHeld := hHeld0.1 rfl
                  clear hHeld0 hK K
                  have hbA : Below wd.heap.size wd (w9.alloc (.cells #[.string ⟨#[]⟩, .string ⟨#[]⟩, .int .i64 0, .slice none 0 0] 45)) := bl_alloc HW.out _
                  have hmA := alloc1_0 w9 (.cells #[.string ⟨#[]⟩, .string ⟨#[]⟩, .int .i64 0, .slice none 0 0] 45)
                  have hl14 : wd.heap.size ≤ w9.heap.size := HW.out.size
                  have hmO := Go.Tw.Below.at_old (bl_alloc (Below.refl w9.heap.size w9) (.cells #[.string ⟨#[]⟩, .string ⟨#[]⟩, .int .i64 0, .slice none 0 0] 45)) M13.out
                  have hnO : w8.heap.size < w9.heap.size := lt_of_heap M13.out
                  have h9A : Below w9.heap.size w9 (w9.alloc (.cells #[.string ⟨#[]⟩, .string ⟨#[]⟩, .int .i64 0, .slice none 0 0] 45)) := bl_alloc HC.out _
                  have hg14 : w9.heap.size ≤ w9.heap.size := HC.out.size
                  obtain ⟨wf6, hwN⟩ : ∃ wN, w9.alloc (.cells #[.string ⟨#[]⟩, .string ⟨#[]⟩, .int .i64 0, .slice none 0 0] 45) = wN := ⟨_, rfl⟩
                  rw [hwN] at hbA hmA hmO h9A hHeld ⊢
                  have hne : w8.heap.size ≠ w9.heap.size := by omega
                  clear hwN HW M13 HC
                  have HW := Lib.hid hbA
                  have M14 := Lib.hid hmA
                  have M13 := Lib.hid hmO
                  have HC := Lib.hid h9A
                  clear hbA hmA hmO h9A hnO
                  obtain ⟨s0, s1', s2', s3', s4, s5, sf⟩ := blk6' M13.out
                  obtain ⟨t0, t1', t2', t3', tf⟩ := blk4 M14.out
                  have hn1 : ¬ (w8.heap.size) = (w9.heap.size) := hne
                  have hn2 : ¬ (w9.heap.size) = (w8.heap.size) := fun e => hne e.symm
                  refine wpD_ready (rs := [12]) (by kernel_rfl) (by kernel_rfl) ?_
                  refine AllReadyD.cons rfl (fun K hK => ?_) AllReadyD.nil
                  rw [if_pos (show _ = true by kernel_rfl)]
                  go_simp
                  refine hK.out _ _ ⟨fun h => absurd h (by decide), fun h => absurd h (by decide)⟩ (fun _ => ?_)
                  clear hK K
                  refine wpD_ready (rs := [13]) (by kernel_rfl) (by kernel_rfl) ?_
                  refine AllReadyD.cons rfl (fun K hK => ?_) AllReadyD.nil
                  rw [if_pos (show _ = true by kernel_rfl)]
                  go_simp
                  refine hK.out _ _ ⟨fun h => absurd h (by decide), fun h => absurd h (by decide)⟩ (fun _ => ?_)
                  clear hK K
                  refine wpD_ready (rs := [14]) (by kernel_rfl) (by kernel_rfl) ?_
                  refine AllReadyD.cons rfl (fun K hK => ?_) AllReadyD.nil
                  rw [if_pos (show _ = true by kernel_rfl)]
                  go_simp
                  refine hK.out _ _ ⟨fun h => absurd h (by decide), fun h => absurd h (by decide)⟩ (fun _ => ?_)
                  clear hK K
                  refine wpD_done (by kernel_rfl) ?_
                  go_wp2_with (fail)
                  go_meet
                  have HFE := fixR_end (n := w.heap.size) (c := b8) (f0 := .string fp.fr) (f1 := .string fp.to) (f2 := .int .i64 fp.sq) (f3 := .slice av fp.rs.length cv) HW.out hl13 hl14 hne M13.out HQ9.out (fun k hk => ⟨hk.1, by first | exact hk.2.1 | (have := hk.1.1; omega), by first | exact hk.2.2 | (have := hk.1.1; omega)⟩) HC.out
                  exact ⟨_, _, _, _, _, _, _, rfl, rfl, HFE.1, HFE.2.1, HFE.2.2⟩
                · rw [if_pos (show _ = true by kernel_rfl)]
                  go_simp
                  clear hHeld
                  refine hK.out _ _ ⟨fun _ => (by (repeat (first | (with_reducible exact Below.refl _ _) | (with_reducible exact HW.out) | (with_reducible apply bl_drewN) | (with_reducible apply bl_alloc) | (with_reducible apply Below.drew))); done), fun h => absurd h (by decide)⟩ (fun hHeld0 => ?_)
                  have hHeld := hHeld0.1 rfl
                  clear hHeld0 hK K
                  have hbA : Below wd.heap.size wd (wp5.alloc (.cells #[.string ⟨#[]⟩, .string ⟨#[]⟩, .int .i64 0, .slice none 0 0] 45)) := bl_alloc HW.out _
                  have hmA := alloc1_0 wp5 (.cells #[.string ⟨#[]⟩, .string ⟨#[]⟩, .int .i64 0, .slice none 0 0] 45)
                  have hl14 : wd.heap.size ≤ wp5.heap.size := HW.out.size
                  have hmO := Go.Tw.Below.at_old (bl_alloc (Below.refl wp5.heap.size wp5) (.cells #[.string ⟨#[]⟩, .string ⟨#[]⟩, .int .i64 0, .slice none 0 0] 45)) M13.out
                  have hnO : w8.heap.size < wp5.heap.size := lt_of_heap M13.out
                  have h8A : Below w8.heap.size w8 (wp5.alloc (.cells #[.string ⟨#[]⟩, .string ⟨#[]⟩, .int .i64 0, .slice none 0 0] 45)) := bl_alloc HB8.out _
                  obtain ⟨wf7, hwN⟩ : ∃ wN, wp5.alloc (.cells #[.string ⟨#[]⟩, .string ⟨#[]⟩, .int .i64 0, .slice none 0 0] 45) = wN := ⟨_, rfl⟩
                  rw [hwN] at hbA hmA hmO h8A hHeld ⊢
                  have hne : w8.heap.size ≠ wp5.heap.size := by omega
                  clear hwN HW M13 HB8
                  have HW := Lib.hid hbA
                  have M14 := Lib.hid hmA
                  have M13 := Lib.hid hmO
                  have HB8 := Lib.hid h8A
                  clear hbA hmA hmO h8A hnO
                  refine wpD_ready (rs := [5]) (by kernel_rfl) (by kernel_rfl) ?_
                  refine AllReadyD.cons rfl (fun K hK => ?_) (AllReadyD.nil)
                  rw [if_pos (show _ = true by kernel_rfl)]
                  go_simp
                  go_wp2_with (
                    go_at_call 25
                    refine (HSD.out _ _ (by (repeat (first | (with_reducible exact Below.refl _ _) | (with_reducible exact HW.out) | (with_reducible apply bl_drewN) | (with_reducible apply bl_alloc) | (with_reducible apply Below.drew))); done) (HVC.out.step (show Below w8.heap.size w8 _ from by (repeat (first | (with_reducible exact HB8.out) | (with_reducible apply bl_drewN) | (with_reducible apply Below.drew)))))).mono ?_
                    rintro e w9 ⟨⟨p1, s1, p2, s2, p3, s3, av, cv, rfl, hq9⟩, hb9⟩
                    have hlt := HK7.out.lt
                    have hW7 := HW.out.size
                    have hW9 : wf7.heap.size ≤ w9.heap.size := hb9.size
                    have hl13' := lt_of_heap M13.out
                    have hl14' := lt_of_heap M14.out
                    have HQ9 := Lib.hid (hq9.keep (S' := fun k => MB w.heap.size b8 w9 k ∧ k ≠ (w8.heap.size) ∧ k ≠ (wp5.heap.size)) (w' := w9) (fun k hk => by
                      rcases hk with hk | hk
                      · have h0 := hk.1
                        exact ⟨MB.up (by omega) k hk, by first | trivial | omega, by first | trivial | omega⟩
                      · have h1 : wf7.heap.size ≤ k := hk.1
                        exact ⟨⟨hk.2, .inr (by omega), by omega, by omega⟩, by first | trivial | omega, by first | trivial | omega⟩) (SameOn.refl _ _))
                    have hm13 := Go.Tw.Below.at_old hb9 M13.out
                    have M13' := Lib.hid (show w9.heap[(w8.heap.size)]? = some (.cells #[.string ⟨#[]⟩, .int .i64 0, .int .i64 0, .slice none 0 0, .slice none 0 0, .slice none 0 0] 29 (0, 0)) from hm13)
                    have hm14 := Go.Tw.Below.at_old hb9 M14.out
                    have M14' := Lib.hid (show w9.heap[(wp5.heap.size)]? = some (.cells #[.string ⟨#[]⟩, .string ⟨#[]⟩, .int .i64 0, .slice none 0 0] 45 (0, 0)) from hm14)
                    have HC := Lib.hid (Below.refl w9.heap.size w9)
                    have HP1 := Lib.hid (show Below wd.heap.size wd w9 from by (refine bl_trans ?_ hb9; exact (by (repeat (first | (with_reducible exact Below.refl _ _) | (with_reducible exact HW.out) | (with_reducible apply bl_drewN) | (with_reducible apply bl_alloc) | (with_reducible apply Below.drew))); done)))
                    clear HW HVC HB8 hb9 hq9 hlt hW7 hW9 M13 hm13 hl13' M14 hm14 hl14'
                    have HW := HP1
                    have M13 := M13'
                    clear M13'
                    have M14 := M14'
                    clear M14'
                    clear HP1)
                  clear hHeld
                  refine hK.out _ _ ⟨fun _ => HW.out, fun h => absurd h (by decide)⟩ (fun hHeld0 => ?_)
                  have hHeld := hHeld0.1 rfl
                  clear hHeld0 hK K
                  refine wpD_take (i := 6) (v := ?_) rfl (by kernel_rfl) (fun _ _ _ h => h) (Or.inl ⟨by kernel_rfl, ?_⟩) (by assumption) ?_
                  rotate_left
                  focus (intro w9 hS9; (try dsimp only at hS9); go_simp; (try with_reducible rfl))
                  (try simp only [Act.put])
                  (try simp only [List.setIfInBounds_toArray])
                  (repeat (first | simp only [Z1] | simp only [Z2]))
                  refine wpD_take (i := 7) (v := ?_) rfl (by kernel_rfl) (fun _ _ _ h => h) (Or.inl ⟨by kernel_rfl, ?_⟩) (by assumption) ?_
                  rotate_left
                  focus (intro w9 hS9; (try dsimp only at hS9); go_simp; (try with_reducible rfl))
                  (try simp only [Act.put])
                  (try simp only [List.setIfInBounds_toArray])
                  (repeat (first | simp only [Z1] | simp only [Z2]))
                  refine wpD_pure (i := 8) (v := ?_) rfl (by kernel_rfl) (fun _ _ _ h => h) (Or.inl ⟨by kernel_rfl, ?_⟩) ?_
                  rotate_left
                  focus (intro w9 hS9; clear hS9; go_simp; (try with_reducible rfl))
                  (try simp only [Act.put])
                  (try simp only [List.setIfInBounds_toArray])
                  (repeat (first | simp only [Z1] | simp only [Z2]))
                  refine wpD_pure (i := 9) (v := ?_) rfl (by kernel_rfl) (fun _ _ _ h => h) (Or.inl ⟨by kernel_rfl, ?_⟩) ?_
                  rotate_left
                  focus (intro w9 hS9; clear hS9; go_simp; (try with_reducible rfl))
                  (try simp only [Act.put])
                  (try simp only [List.setIfInBounds_toArray])
                  (repeat (first | simp only [Z1] | simp only [Z2]))
                  obtain ⟨s0, s1', s2', s3', s4, s5, sf⟩ := blk6' M13.out
                  obtain ⟨t0, t1', t2', t3', tf⟩ := blk4 M14.out
                  have hn1 : ¬ (w8.heap.size) = (wp5.heap.size) := hne
                  have hn2 : ¬ (wp5.heap.size) = (w8.heap.size) := fun e => hne e.symm
                  refine wpD_ready (rs := [12]) (by kernel_rfl) (by kernel_rfl) ?_
                  refine AllReadyD.cons rfl (fun K hK => ?_) AllReadyD.nil
                  rw [if_pos (show _ = true by kernel_rfl)]
                  go_simp
                  refine hK.out _ _ ⟨fun h => absurd h (by decide), fun h => absurd h (by decide)⟩ (fun _ => ?_)
                  clear hK K
                  refine wpD_ready (rs := [13]) (by kernel_rfl) (by kernel_rfl) ?_
                  refine AllReadyD.cons rfl (fun K hK => ?_) AllReadyD.nil
                  rw [if_pos (show _ = true by kernel_rfl)]
                  go_simp
                  refine hK.out _ _ ⟨fun h => absurd h (by decide), fun h => absurd h (by decide)⟩ (fun _ => ?_)
                  clear hK K
                  refine wpD_ready (rs := [14]) (by kernel_rfl) (by kernel_rfl) ?_
                  refine AllReadyD.cons rfl (fun K hK => ?_) AllReadyD.nil
                  rw [if_pos (show _ = true by kernel_rfl)]
                  go_simp
                  refine hK.out _ _ ⟨fun h => absurd h (by decide), fun h => absurd h (by decide)⟩ (fun _ => ?_)
                  clear hK K
                  refine wpD_done (by kernel_rfl) ?_
                  go_wp2_with (fail)
                  go_meet
                  have HFE := fixR_end (n := w.heap.size) (c := b8) (f0 := .string fp.fr) (f1 := .string fp.to) (f2 := .int .i64 fp.sq) (f3 := .slice av fp.rs.length cv) HW.out hl13 hl14 hne M13.out HQ9.out (fun k hk => ⟨hk.1, by first | exact hk.2.1 | (have := hk.1.1; omega), by first | exact hk.2.2 | (have := hk.1.1; omega)⟩) HC.out
                  exact ⟨_, _, _, _, _, _, _, rfl, rfl, HFE.1, HFE.2.1, HFE.2.2⟩
              · rw [if_pos (show _ = true by kernel_rfl)]
                go_simp
                clear hHeld
                refine hK.out _ _ ⟨fun _ => (by (repeat (first | (with_reducible exact Below.refl _ _) | (with_reducible exact HW.out) | (with_reducible apply bl_drewN) | (with_reducible apply bl_alloc) | (with_reducible apply Below.drew))); done), fun h => absurd h (by decide)⟩ (fun hHeld0 => ?_)
                have hHeld := hHeld0.1 rfl
                clear hHeld0 hK K
                have hbA : Below wd.heap.size wd (w8.alloc (.cells #[.string ⟨#[]⟩, .string ⟨#[]⟩, .int .i64 0, .slice none 0 0] 45)) := bl_alloc HW.out _
                have hmA := alloc1_0 w8 (.cells #[.string ⟨#[]⟩, .string ⟨#[]⟩, .int .i64 0, .slice none 0 0] 45)
                have hl14 : wd.heap.size ≤ w8.heap.size := HW.out.size
                have h8A : Below w8.heap.size w8 (w8.alloc (.cells #[.string ⟨#[]⟩, .string ⟨#[]⟩, .int .i64 0, .slice none 0 0] 45)) := bl_alloc HB8.out _
                obtain ⟨wf8, hwN⟩ : ∃ wN, w8.alloc (.cells #[.string ⟨#[]⟩, .string ⟨#[]⟩, .int .i64 0, .slice none 0 0] 45) = wN := ⟨_, rfl⟩
                rw [hwN] at hbA hmA h8A hHeld ⊢
                clear hwN HW HB8
                have HW := Lib.hid hbA
                have M14 := Lib.hid hmA
                have HB8 := Lib.hid h8A
                clear hbA hmA h8A
                refine wpD_ready (rs := [5, 10]) (by kernel_rfl) (by kernel_rfl) ?_
                refine AllReadyD.cons rfl (fun K hK => ?_) (AllReadyD.cons rfl (fun K hK => ?_) (AllReadyD.nil))
                · rw [if_pos (show _ = true by kernel_rfl)]
                  go_simp
                  go_wp2_with (
                    go_at_call 25
                    refine (HSD.out _ _ (by (repeat (first | (with_reducible exact Below.refl _ _) | (with_reducible exact HW.out) | (with_reducible apply bl_drewN) | (with_reducible apply bl_alloc) | (with_reducible apply Below.drew))); done) (HVC.out.step (show Below w8.heap.size w8 _ from by (repeat (first | (with_reducible exact HB8.out) | (with_reducible apply bl_drewN) | (with_reducible apply Below.drew)))))).mono ?_
                    rintro e w9 ⟨⟨p1, s1, p2, s2, p3, s3, av, cv, rfl, hq9⟩, hb9⟩
                    have hlt := HK7.out.lt
                    have hW7 := HW.out.size
                    have hW9 : wf8.heap.size ≤ w9.heap.size := hb9.size
                    have hl14' := lt_of_heap M14.out
                    have HQ9 := Lib.hid (hq9.keep (S' := fun k => MB w.heap.size b8 w9 k ∧ True ∧ k ≠ (w8.heap.size)) (w' := w9) (fun k hk => by
                      rcases hk with hk | hk
                      · have h0 := hk.1
                        exact ⟨MB.up (by omega) k hk, by first | trivial | omega, by first | trivial | omega⟩
                      · have h1 : wf8.heap.size ≤ k := hk.1
                        exact ⟨⟨hk.2, .inr (by omega), by omega, by omega⟩, by first | trivial | omega, by first | trivial | omega⟩) (SameOn.refl _ _))
                    have hm14 := Go.Tw.Below.at_old hb9 M14.out
                    have M14' := Lib.hid (show w9.heap[(w8.heap.size)]? = some (.cells #[.string ⟨#[]⟩, .string ⟨#[]⟩, .int .i64 0, .slice none 0 0] 45 (0, 0)) from hm14)
                    have HC := Lib.hid (Below.refl w9.heap.size w9)
                    have HP1 := Lib.hid (show Below wd.heap.size wd w9 from by (refine bl_trans ?_ hb9; exact (by (repeat (first | (with_reducible exact Below.refl _ _) | (with_reducible exact HW.out) | (with_reducible apply bl_drewN) | (with_reducible apply bl_alloc) | (with_reducible apply Below.drew))); done)))
                    clear HW HVC HB8 hb9 hq9 hlt hW7 hW9 M14 hm14 hl14'
                    have HW := HP1
                    have M14 := M14'
                    clear M14'
                    clear HP1)
                  clear hHeld
                  refine hK.out _ _ ⟨fun _ => HW.out, fun h => absurd h (by decide)⟩ (fun hHeld0 => ?_)
                  have hHeld := hHeld0.1 rfl
                  clear hHeld0 hK K
                  refine wpD_take (i := 6) (v := ?_) rfl (by kernel_rfl) (fun _ _ _ h => h) (Or.inl ⟨by kernel_rfl, ?_⟩) (by assumption) ?_
                  rotate_left
                  focus (intro w9 hS9; (try dsimp only at hS9); go_simp; (try with_reducible rfl))
                  (try simp only [Act.put])
                  (try simp only [List.setIfInBounds_toArray])
                  (repeat (first | simp only [Z1] | simp only [Z2]))
                  refine wpD_take (i := 7) (v := ?_) rfl (by kernel_rfl) (fun _ _ _ h => h) (Or.inl ⟨by kernel_rfl, ?_⟩) (by assumption) ?_
                  rotate_left
                  focus (intro w9 hS9; (try dsimp only at hS9); go_simp; (try with_reducible rfl))
                  (try simp only [Act.put])
                  (try simp only [List.setIfInBounds_toArray])
                  (repeat (first | simp only [Z1] | simp only [Z2]))
                  refine wpD_pure (i := 8) (v := ?_) rfl (by kernel_rfl) (fun _ _ _ h => h) (Or.inl ⟨by kernel_rfl, ?_⟩) ?_
                  rotate_left
                  focus (intro w9 hS9; clear hS9; go_simp; (try with_reducible rfl))
                  (try simp only [Act.put])
                  (try simp only [List.setIfInBounds_toArray])
                  (repeat (first | simp only [Z1] | simp only [Z2]))
                  refine wpD_pure (i := 9) (v := ?_) rfl (by kernel_rfl) (fun _ _ _ h => h) (Or.inl ⟨by kernel_rfl, ?_⟩) ?_
                  rotate_left
                  focus (intro w9 hS9; clear hS9; go_simp; (try with_reducible rfl))
                  (try simp only [Act.put])
                  (try simp only [List.setIfInBounds_toArray])
                  (repeat (first | simp only [Z1] | simp only [Z2]))
                  refine wpD_ready (rs := [10]) (by kernel_rfl) (by kernel_rfl) ?_
                  refine AllReadyD.cons rfl (fun K hK => ?_) (AllReadyD.nil)
                  rw [if_pos (show _ = true by kernel_rfl)]
                  go_simp
                  clear hHeld
                  refine hK.out _ _ ⟨fun _ => (by (repeat (first | (with_reducible exact Below.refl _ _) | (with_reducible exact HW.out) | (with_reducible apply bl_drewN) | (with_reducible apply bl_alloc) | (with_reducible apply Below.drew))); done), fun h => absurd h (by decide)⟩ (fun hHeld0 => ?_)
                  have hHeld := hHeld0.1 rfl
                  clear hHeld0 hK K
                  have hbA : Below wd.heap.size wd (w9.alloc (.cells #[.string ⟨#[]⟩, .int .i64 0, .int .i64 0, .slice none 0 0, .slice none 0 0, .slice none 0 0] 29)) := bl_alloc HW.out _
                  have hmA := alloc1_0 w9 (.cells #[.string ⟨#[]⟩, .int .i64 0, .int .i64 0, .slice none 0 0, .slice none 0 0, .slice none 0 0] 29)
                  have hl13 : wd.heap.size ≤ w9.heap.size := HW.out.size
                  have hmO := Go.Tw.Below.at_old (bl_alloc (Below.refl w9.heap.size w9) (.cells #[.string ⟨#[]⟩, .int .i64 0, .int .i64 0, .slice none 0 0, .slice none 0 0, .slice none 0 0] 29)) M14.out
                  have hnO : w8.heap.size < w9.heap.size := lt_of_heap M14.out
                  have h9A : Below w9.heap.size w9 (w9.alloc (.cells #[.string ⟨#[]⟩, .int .i64 0, .int .i64 0, .slice none 0 0, .slice none 0 0, .slice none 0 0] 29)) := bl_alloc HC.out _
                  have hg13 : w9.heap.size ≤ w9.heap.size := HC.out.size
                  obtain ⟨wp9, hwN⟩ : ∃ wN, w9.alloc (.cells #[.string ⟨#[]⟩, .int .i64 0, .int .i64 0, .slice none 0 0, .slice none 0 0, .slice none 0 0] 29) = wN := ⟨_, rfl⟩
                  rw [hwN] at hbA hmA hmO h9A hHeld ⊢
                  have hne : w9.heap.size ≠ w8.heap.size := by omega
                  clear hwN HW M14 HC
                  have HW := Lib.hid hbA
                  have M13 := Lib.hid hmA
                  have M14 := Lib.hid hmO
                  have HC := Lib.hid h9A
                  clear hbA hmA hmO h9A hnO
                  obtain ⟨s0, s1', s2', s3', s4, s5, sf⟩ := blk6' M13.out
                  obtain ⟨t0, t1', t2', t3', tf⟩ := blk4 M14.out
                  have hn1 : ¬ (w9.heap.size) = (w8.heap.size) := hne
                  have hn2 : ¬ (w8.heap.size) = (w9.heap.size) := fun e => hne e.symm
                  refine wpD_ready (rs := [12]) (by kernel_rfl) (by kernel_rfl) ?_
                  refine AllReadyD.cons rfl (fun K hK => ?_) AllReadyD.nil
                  rw [if_pos (show _ = true by kernel_rfl)]
                  go_simp
                  refine hK.out _ _ ⟨fun h => absurd h (by decide), fun h => absurd h (by decide)⟩ (fun _ => ?_)
                  clear hK K
                  refine wpD_ready (rs := [13]) (by kernel_rfl) (by kernel_rfl) ?_
                  refine AllReadyD.cons rfl (fun K hK => ?_) AllReadyD.nil
                  rw [if_pos (show _ = true by kernel_rfl)]
                  go_simp
                  refine hK.out _ _ ⟨fun h => absurd h (by decide), fun h => absurd h (by decide)⟩ (fun _ => ?_)
                  clear hK K
                  refine wpD_ready (rs := [14]) (by kernel_rfl) (by kernel_rfl) ?_
                  refine AllReadyD.cons rfl (fun K hK => ?_) AllReadyD.nil
                  rw [if_pos (show _ = true by kernel_rfl)]
                  go_simp
                  refine hK.out _ _ ⟨fun h => absurd h (by decide), fun h => absurd h (by decide)⟩ (fun _ => ?_)
                  clear hK K
                  refine wpD_done (by kernel_rfl) ?_
                  go_wp2_with (fail)
                  go_meet
                  have HFE := fixR_end (n := w.heap.size) (c := b8) (f0 := .string fp.fr) (f1 := .string fp.to) (f2 := .int .i64 fp.sq) (f3 := .slice av fp.rs.length cv) HW.out hl13 hl14 hne M13.out HQ9.out (fun k hk => ⟨hk.1, by first | exact hk.2.1 | (have := hk.1.1; omega), by first | exact hk.2.2 | (have := hk.1.1; omega)⟩) HC.out
                  exact ⟨_, _, _, _, _, _, _, rfl, rfl, HFE.1, HFE.2.1, HFE.2.2⟩
                · rw [if_pos (show _ = true by kernel_rfl)]
                  go_simp
                  clear hHeld
                  refine hK.out _ _ ⟨fun _ => (by (repeat (first | (with_reducible exact Below.refl _ _) | (with_reducible exact HW.out) | (with_reducible apply bl_drewN) | (with_reducible apply bl_alloc) | (with_reducible apply Below.drew))); done), fun h => absurd h (by decide)⟩ (fun hHeld0 => ?_)
                  have hHeld := hHeld0.1 rfl
                  clear hHeld0 hK K
                  have hbA : Below wd.heap.size wd (wf8.alloc (.cells #[.string ⟨#[]⟩, .int .i64 0, .int .i64 0, .slice none 0 0, .slice none 0 0, .slice none 0 0] 29)) := bl_alloc HW.out _
                  have hmA := alloc1_0 wf8 (.cells #[.string ⟨#[]⟩, .int .i64 0, .int .i64 0, .slice none 0 0, .slice none 0 0, .slice none 0 0] 29)
                  have hl13 : wd.heap.size ≤ wf8.heap.size := HW.out.size
                  have hmO := Go.Tw.Below.at_old (bl_alloc (Below.refl wf8.heap.size wf8) (.cells #[.string ⟨#[]⟩, .int .i64 0, .int .i64 0, .slice none 0 0, .slice none 0 0, .slice none 0 0] 29)) M14.out
                  have hnO : w8.heap.size < wf8.heap.size := lt_of_heap M14.out
                  have h8A : Below w8.heap.size w8 (wf8.alloc (.cells #[.string ⟨#[]⟩, .int .i64 0, .int .i64 0, .slice none 0 0, .slice none 0 0, .slice none 0 0] 29)) := bl_alloc HB8.out _
                  obtain ⟨wp10, hwN⟩ : ∃ wN, wf8.alloc (.cells #[.string ⟨#[]⟩, .int .i64 0, .int .i64 0, .slice none 0 0, .slice none 0 0, .slice none 0 0] 29) = wN := ⟨_, rfl⟩
                  rw [hwN] at hbA hmA hmO h8A hHeld ⊢
                  have hne : wf8.heap.size ≠ w8.heap.size := by omega
                  clear hwN HW M14 HB8
                  have HW := Lib.hid hbA
                  have M13 := Lib.hid hmA
                  have M14 := Lib.hid hmO
                  have HB8 := Lib.hid h8A
                  clear hbA hmA hmO h8A hnO
                  refine wpD_ready (rs := [5]) (by kernel_rfl) (by kernel_rfl) ?_
                  refine AllReadyD.cons rfl (fun K hK => ?_) (AllReadyD.nil)
                  rw [if_pos (show _ = true by kernel_rfl)]
                  go_simp
                  go_wp2_with (
                    go_at_call 25
                    refine (HSD.out _ _ (by (repeat (first | (with_reducible exact Below.refl _ _) | (with_reducible exact HW.out) | (with_reducible apply bl_drewN) | (with_reducible apply bl_alloc) | (with_reducible apply Below.drew))); done) (HVC.out.step (show Below w8.heap.size w8 _ from by (repeat (first | (with_reducible exact HB8.out) | (with_reducible apply bl_drewN) | (with_reducible apply Below.drew)))))).mono ?_
                    rintro e w9 ⟨⟨p1, s1, p2, s2, p3, s3, av, cv, rfl, hq9⟩, hb9⟩
                    have hlt := HK7.out.lt
                    have hW7 := HW.out.size
                    have hW9 : wp10.heap.size ≤ w9.heap.size := hb9.size
                    have hl13' := lt_of_heap M13.out
                    have hl14' := lt_of_heap M14.out
                    have HQ9 := Lib.hid (hq9.keep (S' := fun k => MB w.heap.size b8 w9 k ∧ k ≠ (wf8.heap.size) ∧ k ≠ (w8.heap.size)) (w' := w9) (fun k hk => by
                      rcases hk with hk | hk
                      · have h0 := hk.1
                        exact ⟨MB.up (by omega) k hk, by first | trivial | omega, by first | trivial | omega⟩
                      · have h1 : wp10.heap.size ≤ k := hk.1
                        exact ⟨⟨hk.2, .inr (by omega), by omega, by omega⟩, by first | trivial | omega, by first | trivial | omega⟩) (SameOn.refl _ _))
                    have hm13 := Go.Tw.Below.at_old hb9 M13.out
                    have M13' := Lib.hid (show w9.heap[(wf8.heap.size)]? = some (.cells #[.string ⟨#[]⟩, .int .i64 0, .int .i64 0, .slice none 0 0, .slice none 0 0, .slice none 0 0] 29 (0, 0)) from hm13)
                    have hm14 := Go.Tw.Below.at_old hb9 M14.out
                    have M14' := Lib.hid (show w9.heap[(w8.heap.size)]? = some (.cells #[.string ⟨#[]⟩, .string ⟨#[]⟩, .int .i64 0, .slice none 0 0] 45 (0, 0)) from hm14)
                    have HC := Lib.hid (Below.refl w9.heap.size w9)
                    have HP1 := Lib.hid (show Below wd.heap.size wd w9 from by (refine bl_trans ?_ hb9; exact (by (repeat (first | (with_reducible exact Below.refl _ _) | (with_reducible exact HW.out) | (with_reducible apply bl_drewN) | (with_reducible apply bl_alloc) | (with_reducible apply Below.drew))); done)))
                    clear HW HVC HB8 hb9 hq9 hlt hW7 hW9 M13 hm13 hl13' M14 hm14 hl14'
                    have HW := HP1
                    have M13 := M13'
                    clear M13'
                    have M14 := M14'
                    clear M14'
                    clear HP1)
                  clear hHeld
                  refine hK.out _ _ ⟨fun _ => HW.out, fun h => absurd h (by decide)⟩ (fun hHeld0 => ?_)
                  have hHeld := hHeld0.1 rfl
                  clear hHeld0 hK K
                  refine wpD_take (i := 6) (v := ?_) rfl (by kernel_rfl) (fun _ _ _ h => h) (Or.inl ⟨by kernel_rfl, ?_⟩) (by assumption) ?_
                  rotate_left
                  focus (intro w9 hS9; (try dsimp only at hS9); go_simp; (try with_reducible rfl))
                  (try simp only [Act.put])
                  (try simp only [List.setIfInBounds_toArray])
                  (repeat (first | simp only [Z1] | simp only [Z2]))
                  refine wpD_take (i := 7) (v := ?_) rfl (by kernel_rfl) (fun _ _ _ h => h) (Or.inl ⟨by kernel_rfl, ?_⟩) (by assumption) ?_
                  rotate_left
                  focus (intro w9 hS9; (try dsimp only at hS9); go_simp; (try with_reducible rfl))
                  (try simp only [Act.put])
                  (try simp only [List.setIfInBounds_toArray])
                  (repeat (first | simp only [Z1] | simp only [Z2]))
                  refine wpD_pure (i := 8) (v := ?_) rfl (by kernel_rfl) (fun _ _ _ h => h) (Or.inl ⟨by kernel_rfl, ?_⟩) ?_
                  rotate_left
                  focus (intro w9 hS9; clear hS9; go_simp; (try with_reducible rfl))
                  (try simp only [Act.put])
                  (try simp only [List.setIfInBounds_toArray])
                  (repeat (first | simp only [Z1] | simp only [Z2]))
                  refine wpD_pure (i := 9) (v := ?_) rfl (by kernel_rfl) (fun _ _ _ h => h) (Or.inl ⟨by kernel_rfl, ?_⟩) ?_
                  rotate_left
                  focus (intro w9 hS9; clear hS9; go_simp; (try with_reducible rfl))
                  (try simp only [Act.put])
                  (try simp only [List.setIfInBounds_toArray])
                  (repeat (first | simp only [Z1] | simp only [Z2]))
                  obtain ⟨s0, s1', s2', s3', s4, s5, sf⟩ := blk6' M13.out
                  obtain ⟨t0, t1', t2', t3', tf⟩ := blk4 M14.out
                  have hn1 : ¬ (wf8.heap.size) = (w8.heap.size) := hne
                  have hn2 : ¬ (w8.heap.size) = (wf8.heap.size) := fun e => hne e.symm
                  refine wpD_ready (rs := [12]) (by kernel_rfl) (by kernel_rfl) ?_
                  refine AllReadyD.cons rfl (fun K hK => ?_) AllReadyD.nil
                  rw [if_pos (show _ = true by kernel_rfl)]
                  go_simp
                  refine hK.out _ _ ⟨fun h => absurd h (by decide), fun h => absurd h (by decide)⟩ (fun _ => ?_)
                  clear hK K
                  refine wpD_ready (rs := [13]) (by kernel_rfl) (by kernel_rfl) ?_
                  refine AllReadyD.cons rfl (fun K hK => ?_) AllReadyD.nil
                  rw [if_pos (show _ = true by kernel_rfl)]
                  go_simp
                  refine hK.out _ _ ⟨fun h => absurd h (by decide), fun h => absurd h (by decide)⟩ (fun _ => ?_)
                  clear hK K
                  refine wpD_ready (rs := [14]) (by kernel_rfl) (by kernel_rfl) ?_
                  refine AllReadyD.cons rfl (fun K hK => ?_) AllReadyD.nil
                  rw [if_pos (show _ = true by kernel_rfl)]
                  go_simp
                  refine hK.out _ _ ⟨fun h => absurd h (by decide), fun h => absurd h (by decide)⟩ (fun _ => ?_)
                  clear hK K
                  refine wpD_done (by kernel_rfl) ?_
                  go_wp2_with (fail)
                  go_meet
                  have HFE := fixR_end (n := w.heap.size) (c := b8) (f0 := .string fp.fr) (f1 := .string fp.to) (f2 := .int .i64 fp.sq) (f3 := .slice av fp.rs.length cv) HW.out hl13 hl14 hne M13.out HQ9.out (fun k hk => ⟨hk.1, by first | exact hk.2.1 | (have := hk.1.1; omega), by first | exact hk.2.2 | (have := hk.1.1; omega)⟩) HC.out
                  exact ⟨_, _, _, _, _, _, _, rfl, rfl, HFE.1, HFE.2.1, HFE.2.2⟩
            · rw [if_pos (show _ = true by kernel_rfl)]
              go_simp
              clear hHeld
              refine hK.out _ _ ⟨fun _ => (by (repeat (first | (with_reducible exact Below.refl _ _) | (with_reducible exact HW.out) | (with_reducible apply bl_drewN) | (with_reducible apply bl_alloc) | (with_reducible apply Below.drew))); done), fun h => absurd h (by decide)⟩ (fun hHeld0 => ?_)
              have hHeld := hHeld0.1 rfl
              clear hHeld0 hK K
              have hbA : Below wd.heap.size wd (wd.alloc (.cells #[.string ⟨#[]⟩, .int .i64 0, .int .i64 0, .slice none 0 0, .slice none 0 0, .slice none 0 0] 29)) := bl_alloc HW.out _
              have hmA := alloc1_0 wd (.cells #[.string ⟨#[]⟩, .int .i64 0, .int .i64 0, .slice none 0 0, .slice none 0 0, .slice none 0 0] 29)
              have hl13 : wd.heap.size ≤ wd.heap.size := HW.out.size
              obtain ⟨wp11, hwN⟩ : ∃ wN, wd.alloc (.cells #[.string ⟨#[]⟩, .int .i64 0, .int .i64 0, .slice none 0 0, .slice none 0 0, .slice none 0 0] 29) = wN := ⟨_, rfl⟩
              rw [hwN] at hbA hmA hHeld ⊢
              clear hwN HW
              have HW := Lib.hid hbA
              have M13 := Lib.hid hmA
              clear hbA hmA
              refine wpD_ready (rs := [4, 11]) (by kernel_rfl) (by kernel_rfl) ?_
              refine AllReadyD.cons rfl (fun K hK => ?_) (AllReadyD.cons rfl (fun K hK => ?_) (AllReadyD.nil))
              · rw [if_pos (show _ = true by kernel_rfl)]
                go_simp
                go_wp2_with (
                  go_at_call 34
                  refine (HCC.out _ (by (repeat (first | (with_reducible exact Below.refl _ _) | (with_reducible exact HW.out) | (with_reducible apply bl_drewN) | (with_reducible apply bl_alloc) | (with_reducible apply Below.drew))); done)).mono ?_
                  rintro e w8 ⟨⟨vc, rfl, hvc⟩, hb9⟩
                  obtain ⟨a8, c8, rfl, -, -⟩ := hvc.form
                  have HVC := Lib.hid hvc.sl
                  have HB8 := Lib.hid (Below.refl w8.heap.size w8)
                  have hm13 := Go.Tw.Below.at_old hb9 M13.out
                  have M13' := Lib.hid (show w8.heap[(wd.heap.size)]? = some (.cells #[.string ⟨#[]⟩, .int .i64 0, .int .i64 0, .slice none 0 0, .slice none 0 0, .slice none 0 0] 29 (0, 0)) from hm13)
                  have HP1 := Lib.hid (show Below wd.heap.size wd w8 from by (refine bl_trans ?_ hb9; exact (by (repeat (first | (with_reducible exact Below.refl _ _) | (with_reducible exact HW.out) | (with_reducible apply bl_drewN) | (with_reducible apply bl_alloc) | (with_reducible apply Below.drew))); done)))
                  clear HW hb9 hvc M13 hm13
                  have HW := HP1
                  have M13 := M13'
                  clear M13'
                  clear HP1)
                clear hHeld
                refine hK.out _ _ ⟨fun _ => HW.out, fun h => absurd h (by decide)⟩ (fun hHeld0 => ?_)
                have hHeld := hHeld0.1 rfl
                clear hHeld0 hK K
                refine wpD_ready (rs := [5, 11]) (by kernel_rfl) (by kernel_rfl) ?_
                refine AllReadyD.cons rfl (fun K hK => ?_) (AllReadyD.cons rfl (fun K hK => ?_) (AllReadyD.nil))
                · rw [if_pos (show _ = true by kernel_rfl)]
                  go_simp
                  go_wp2_with (
                    go_at_call 25
                    refine (HSD.out _ _ (by (repeat (first | (with_reducible exact Below.refl _ _) | (with_reducible exact HW.out) | (with_reducible apply bl_drewN) | (with_reducible apply bl_alloc) | (with_reducible apply Below.drew))); done) (HVC.out.step (show Below w8.heap.size w8 _ from by (repeat (first | (with_reducible exact HB8.out) | (with_reducible apply bl_drewN) | (with_reducible apply Below.drew)))))).mono ?_
                    rintro e w9 ⟨⟨p1, s1, p2, s2, p3, s3, av, cv, rfl, hq9⟩, hb9⟩
                    have hlt := HK7.out.lt
                    have hW7 := HW.out.size
                    have hW9 : w8.heap.size ≤ w9.heap.size := hb9.size
                    have hl13' := lt_of_heap M13.out
                    have HQ9 := Lib.hid (hq9.keep (S' := fun k => MB w.heap.size b8 w9 k ∧ k ≠ (wd.heap.size) ∧ True) (w' := w9) (fun k hk => by
                      rcases hk with hk | hk
                      · have h0 := hk.1
                        exact ⟨MB.up (by omega) k hk, by first | trivial | omega, by first | trivial | omega⟩
                      · have h1 : w8.heap.size ≤ k := hk.1
                        exact ⟨⟨hk.2, .inr (by omega), by omega, by omega⟩, by first | trivial | omega, by first | trivial | omega⟩) (SameOn.refl _ _))
                    have hm13 := Go.Tw.Below.at_old hb9 M13.out
                    have M13' := Lib.hid (show w9.heap[(wd.heap.size)]? = some (.cells #[.string ⟨#[]⟩, .int .i64 0, .int .i64 0, .slice none 0 0, .slice none 0 0, .slice none 0 0] 29 (0, 0)) from hm13)
                    have HC := Lib.hid (Below.refl w9.heap.size w9)
                    have HP1 := Lib.hid (show Below wd.heap.size wd w9 from by (refine bl_trans ?_ hb9; exact (by (repeat (first | (with_reducible exact Below.refl _ _) | (with_reducible exact HW.out) | (with_reducible apply bl_drewN) | (with_reducible apply bl_alloc) | (with_reducible apply Below.drew))); done)))
                    clear HW HVC HB8 hb9 hq9 hlt hW7 hW9 M13 hm13 hl13'
                    have HW := HP1
                    have M13 := M13'
                    clear M13'
                    clear HP1)
                  clear hHeld
                  refine hK.out _ _ ⟨fun _ => HW.out, fun h => absurd h (by decide)⟩ (fun hHeld0 => ?_)
                  have hHeld := hHeld0.1 rfl
                  clear hHeld0 hK K
                  refine wpD_take (i := 6) (v := ?_) rfl (by kernel_rfl) (fun _ _ _ h => h) (Or.inl ⟨by kernel_rfl, ?_⟩) (by assumption) ?_
                  rotate_left
                  focus (intro w9 hS9; (try dsimp only at hS9); go_simp; (try with_reducible rfl))
                  (try simp only [Act.put])
                  (try simp only [List.setIfInBounds_toArray])
                  (repeat (first | simp only [Z1] | simp only [Z2]))
                  refine wpD_take (i := 7) (v := ?_) rfl (by kernel_rfl) (fun _ _ _ h => h) (Or.inl ⟨by kernel_rfl, ?_⟩) (by assumption) ?_
                  rotate_left
                  focus (intro w9 hS9; (try dsimp only at hS9); go_simp; (try with_reducible rfl))
                  (try simp only [Act.put])
                  (try simp only [List.setIfInBounds_toArray])
                  (repeat (first | simp only [Z1] | simp only [Z2]))
                  refine wpD_pure (i := 8) (v := ?_) rfl (by kernel_rfl) (fun _ _ _ h => h) (Or.inl ⟨by kernel_rfl, ?_⟩) ?_
                  rotate_left
                  focus (intro w9 hS9; clear hS9; go_simp; (try with_reducible rfl))
                  (try simp only [Act.put])
                  (try simp only [List.setIfInBounds_toArray])
                  (repeat (first | simp only [Z1] | simp only [Z2]))
                  refine wpD_pure (i := 9) (v := ?_) rfl (by kernel_rfl) (fun _ _ _ h => h) (Or.inl ⟨by kernel_rfl, ?_⟩) ?_
                  rotate_left
                  focus (intro w9 hS9; clear hS9; go_simp; (try with_reducible rfl))
                  (try simp only [Act.put])
                  (try simp only [List.setIfInBounds_toArray])
                  (repeat (first | simp only [Z1] | simp only [Z2]))
                  refine wpD_ready (rs := [11]) (by kernel_rfl) (by kernel_rfl) ?_
                  refine AllReadyD.cons rfl (fun K hK => ?_) (AllReadyD.nil)
                  rw [if_pos (show _ = true by kernel_rfl)]
                  go_simp
                  clear hHeld
                  refine hK.out _ _ ⟨fun _ => (by (repeat (first | (with_reducible exact Below.refl _ _) | (with_reducible exact HW.out) | (with_reducible apply bl_drewN) | (with_reducible apply bl_alloc) | (with_reducible apply Below.drew))); done), fun h => absurd h (by decide)⟩ (fun hHeld0 => ?_)
                  have hHeld := hHeld0.1 rfl
                  clear hHeld0 hK K
                  have hbA : Below wd.heap.size wd (w9.alloc (.cells #[.string ⟨#[]⟩, .string ⟨#[]⟩, .int .i64 0, .slice none 0 0] 45)) := bl_alloc HW.out _
                  have hmA := alloc1_0 w9 (.cells #[.string ⟨#[]⟩, .string ⟨#[]⟩, .int .i64 0, .slice none 0 0] 45)
                  have hl14 : wd.heap.size ≤ w9.heap.size := HW.out.size
                  have hmO := Go.Tw.Below.at_old (bl_alloc (Below.refl w9.heap.size w9) (.cells #[.string ⟨#[]⟩, .string ⟨#[]⟩, .int .i64 0, .slice none 0 0] 45)) M13.out
                  have hnO : wd.heap.size < w9.heap.size := lt_of_heap M13.out
                  have h9A : Below w9.heap.size w9 (w9.alloc (.cells #[.string ⟨#[]⟩, .string ⟨#[]⟩, .int .i64 0, .slice none 0 0] 45)) := bl_alloc HC.out _
                  have hg14 : w9.heap.size ≤ w9.heap.size := HC.out.size
                  obtain ⟨wf12, hwN⟩ : ∃ wN, w9.alloc (.cells #[.string ⟨#[]⟩, .string ⟨#[]⟩, .int .i64 0, .slice none 0 0] 45) = wN := ⟨_, rfl⟩
                  rw [hwN] at hbA hmA hmO h9A hHeld ⊢
                  have hne : wd.heap.size ≠ w9.heap.size := by omega
                  clear hwN HW M13 HC
                  have HW := Lib.hid hbA
                  have M14 := Lib.hid hmA
                  have M13 := Lib.hid hmO
                  have HC := Lib.hid h9A
                  clear hbA hmA hmO h9A hnO
                  obtain ⟨s0, s1', s2', s3', s4, s5, sf⟩ := blk6' M13.out
                  obtain ⟨t0, t1', t2', t3', tf⟩ := blk4 M14.out
                  have hn1 : ¬ (wd.heap.size) = (w9.heap.size) := hne
                  have hn2 : ¬ (w9.heap.size) = (wd.heap.size) := fun e => hne e.symm
                  refine wpD_ready (rs := [12]) (by kernel_rfl) (by kernel_rfl) ?_
                  refine AllReadyD.cons rfl (fun K hK => ?_) AllReadyD.nil
                  rw [if_pos (show _ = true by kernel_rfl)]
                  go_simp
                  refine hK.out _ _ ⟨fun h => absurd h (by decide), fun h => absurd h (by decide)⟩ (fun _ => ?_)
                  clear hK K
                  refine wpD_ready (rs := [13]) (by kernel_rfl) (by kernel_rfl) ?_
                  refine AllReadyD.cons rfl (fun K hK => ?_) AllReadyD.nil
                  rw [if_pos (show _ = true by kernel_rfl)]
                  go_simp
                  refine hK.out _ _ ⟨fun h => absurd h (by decide), fun h => absurd h (by decide)⟩ (fun _ => ?_)
                  clear hK K
                  refine wpD_ready (rs := [14]) (by kernel_rfl) (by kernel_rfl) ?_
                  refine AllReadyD.cons rfl (fun K hK => ?_) AllReadyD.nil
                  rw [if_pos (show _ = true by kernel_rfl)]
                  go_simp
                  refine hK.out _ _ ⟨fun h => absurd h (by decide), fun h => absurd h (by decide)⟩ (fun _ => ?_)
                  clear hK K
                  refine wpD_done (by kernel_rfl) ?_
                  go_wp2_with (fail)
                  go_meet
                  have HFE := fixR_end (n := w.heap.size) (c := b8) (f0 := .string fp.fr) (f1 := .string fp.to) (f2 := .int .i64 fp.sq) (f3 := .slice av fp.rs.length cv) HW.out hl13 hl14 hne M13.out HQ9.out (fun k hk => ⟨hk.1, by first | exact hk.2.1 | (have := hk.1.1; omega), by first | exact hk.2.2 | (have := hk.1.1; omega)⟩) HC.out
                  exact ⟨_, _, _, _, _, _, _, rfl, rfl, HFE.1, HFE.2.1, HFE.2.2⟩
                · rw [if_pos (show _ = true by kernel_rfl)]
                  go_simp
                  clear hHeld
                  refine hK.out _ _ ⟨fun _ => (by (repeat (first | (with_reducible exact Below.refl _ _) | (with_reducible exact HW.out) | (with_reducible apply bl_drewN) | (with_reducible apply bl_alloc) | (with_reducible apply Below.drew))); done), fun h => absurd h (by decide)⟩ (fun hHeld0 => ?_)
                  have hHeld := hHeld0.1 rfl
                  clear hHeld0 hK K
                  have hbA : Below wd.heap.size wd (w8.alloc (.cells #[.string ⟨#[]⟩, .string ⟨#[]⟩, .int .i64 0, .slice none 0 0] 45)) := bl_alloc HW.out _
                  have hmA := alloc1_0 w8 (.cells #[.string ⟨#[]⟩, .string ⟨#[]⟩, .int .i64 0, .slice none 0 0] 45)
                  have hl14 : wd.heap.size ≤ w8.heap.size := HW.out.size
                  have hmO := Go.Tw.Below.at_old (bl_alloc (Below.refl w8.heap.size w8) (.cells #[.string ⟨#[]⟩, .string ⟨#[]⟩, .int .i64 0, .slice none 0 0] 45)) M13.out
                  have hnO : wd.heap.size < w8.heap.size := lt_of_heap M13.out
                  have h8A : Below w8.heap.size w8 (w8.alloc (.cells #[.string ⟨#[]⟩, .string ⟨#[]⟩, .int .i64 0, .slice none 0 0] 45)) := bl_alloc HB8.out _
                  obtain ⟨wf13, hwN⟩ : ∃ wN, w8.alloc (.cells #[.string ⟨#[]⟩, .string ⟨#[]⟩, .int .i64 0, .slice none 0 0] 45) = wN := ⟨_, rfl⟩
                  rw [hwN] at hbA hmA hmO h8A hHeld ⊢
                  have hne : wd.heap.size ≠ w8.heap.size := by omega
                  clear hwN HW M13 HB8
                  have HW := Lib.hid hbA
                  have M14 := Lib.hid hmA
                  have M13 := Lib.hid hmO
                  have HB8 := Lib.hid h8A
                  clear hbA hmA hmO h8A hnO
                  refine wpD_ready (rs := [5]) (by kernel_rfl) (by kernel_rfl) ?_
                  refine AllReadyD.cons rfl (fun K hK => ?_) (AllReadyD.nil)
                  rw [if_pos (show _ = true by kernel_rfl)]
                  go_simp
                  go_wp2_with (
                    go_at_call 25
                    refine (HSD.out _ _ (by (repeat (first | (with_reducible exact Below.refl _ _) | (with_reducible exact HW.out) | (with_reducible apply bl_drewN) | (with_reducible apply bl_alloc) | (with_reducible apply Below.drew))); done) (HVC.out.step (show Below w8.heap.size w8 _ from by (repeat (first | (with_reducible exact HB8.out) | (with_reducible apply bl_drewN) | (with_reducible apply Below.drew)))))).mono ?_
                    rintro e w9 ⟨⟨p1, s1, p2, s2, p3, s3, av, cv, rfl, hq9⟩, hb9⟩
                    have hlt := HK7.out.lt
                    have hW7 := HW.out.size
                    have hW9 : wf13.heap.size ≤ w9.heap.size := hb9.size
                    have hl13' := lt_of_heap M13.out
                    have hl14' := lt_of_heap M14.out
                    have HQ9 := Lib.hid (hq9.keep (S' := fun k => MB w.heap.size b8 w9 k ∧ k ≠ (wd.heap.size) ∧ k ≠ (w8.heap.size)) (w' := w9) (fun k hk => by
                      rcases hk with hk | hk
                      · have h0 := hk.1
                        exact ⟨MB.up (by omega) k hk, by first | trivial | omega, by first | trivial | omega⟩
                      · have h1 : wf13.heap.size ≤ k := hk.1
                        exact ⟨⟨hk.2, .inr (by omega), by omega, by omega⟩, by first | trivial | omega, by first | trivial | omega⟩) (SameOn.refl _ _))
                    have hm13 := Go.Tw.Below.at_old hb9 M13.out
                    have M13' := Lib.hid (show w9.heap[(wd.heap.size)]? = some (.cells #[.string ⟨#[]⟩, .int .i64 0, .int .i64 0, .slice none 0 0, .slice none 0 0, .slice none 0 0] 29 (0, 0)) from hm13)
                    have hm14 := Go.Tw.Below.at_old hb9 M14.out
                    have M14' := Lib.hid (show w9.heap[(w8.heap.size)]? = some (.cells #[.string ⟨#[]⟩, .string ⟨#[]⟩, .int .i64 0, .slice none 0 0] 45 (0, 0)) from hm14)
                    have HC := Lib.hid (Below.refl w9.heap.size w9)
                    have HP1 := Lib.hid (show Below wd.heap.size wd w9 from by (refine bl_trans ?_ hb9; exact (by (repeat (first | (with_reducible exact Below.refl _ _) | (with_reducible exact HW.out) | (with_reducible apply bl_drewN) | (with_reducible apply bl_alloc) | (with_reducible apply Below.drew))); done)))
                    clear HW HVC HB8 hb9 hq9 hlt hW7 hW9 M13 hm13 hl13' M14 hm14 hl14'
                    have HW := HP1
                    have M13 := M13'
                    clear M13'
                    have M14 := M14'
                    clear M14'
                    clear HP1)
                  clear hHeld
                  refine hK.out _ _ ⟨fun _ => HW.out, fun h => absurd h (by decide)⟩ (fun hHeld0 => ?_)
                  have hHeld := hHeld0.1 rfl
                  clear hHeld0 hK K
                  refine wpD_take (i := 6) (v := ?_) rfl (by kernel_rfl) (fun _ _ _ h => h) (Or.inl ⟨by kernel_rfl, ?_⟩) (by assumption) ?_
                  rotate_left
                  focus (intro w9 hS9; (try dsimp only at hS9); go_simp; (try with_reducible rfl))
                  (try simp only [Act.put])
                  (try simp only [List.setIfInBounds_toArray])
                  (repeat (first | simp only [Z1] | simp only [Z2]))
                  refine wpD_take (i := 7) (v := ?_) rfl (by kernel_rfl) (fun _ _ _ h => h) (Or.inl ⟨by kernel_rfl, ?_⟩) (by assumption) ?_
                  rotate_left
                  focus (intro w9 hS9; (try dsimp only at hS9); go_simp; (try with_reducible rfl))
                  (try simp only [Act.put])
                  (try simp only [List.setIfInBounds_toArray])
                  (repeat (first | simp only [Z1] | simp only [Z2]))
                  refine wpD_pure (i := 8) (v := ?_) rfl (by kernel_rfl) (fun _ _ _ h => h) (Or.inl ⟨by kernel_rfl, ?_⟩) ?_
                  rotate_left
                  focus (intro w9 hS9; clear hS9; go_simp; (try with_reducible rfl))
                  (try simp only [Act.put])
                  (try simp only [List.setIfInBounds_toArray])
                  (repeat (first | simp only [Z1] | simp only [Z2]))
                  refine wpD_pure (i := 9) (v := ?_) rfl (by kernel_rfl) (fun _ _ _ h => h) (Or.inl ⟨by kernel_rfl, ?_⟩) ?_
                  rotate_left
                  focus (intro w9 hS9; clear hS9; go_simp; (try with_reducible rfl))
                  (try simp only [Act.put])
                  (try simp only [List.setIfInBounds_toArray])
                  (repeat (first | simp only [Z1] | simp only [Z2]))
                  obtain ⟨s0, s1', s2', s3', s4, s5, sf⟩ := blk6' M13.out
                  obtain ⟨t0, t1', t2', t3', tf⟩ := blk4 M14.out
                  have hn1 : ¬ (wd.heap.size) = (w8.heap.size) := hne
                  have hn2 : ¬ (w8.heap.size) = (wd.heap.size) := fun e => hne e.symm
                  refine wpD_ready (rs := [12]) (by kernel_rfl) (by kernel_rfl) ?_
                  refine AllReadyD.cons rfl (fun K hK => ?_) AllReadyD.nil
                  rw [if_pos (show _ = true by kernel_rfl)]
                  go_simp
                  refine hK.out _ _ ⟨fun h => absurd h (by decide), fun h => absurd h (by decide)⟩ (fun _ => ?_)
                  clear hK K
                  refine wpD_ready (rs := [13]) (by kernel_rfl) (by kernel_rfl) ?_
                  refine AllReadyD.cons rfl (fun K hK => ?_) AllReadyD.nil
                  rw [if_pos (show _ = true by kernel_rfl)]
                  go_simp
                  refine hK.out _ _ ⟨fun h => absurd h (by decide), fun h => absurd h (by decide)⟩ (fun _ => ?_)
                  clear hK K
                  refine wpD_ready (rs := [14]) (by kernel_rfl) (by kernel_rfl) ?_
                  refine AllReadyD.cons rfl (fun K hK => ?_) AllReadyD.nil
                  rw [if_pos (show _ = true by kernel_rfl)]
                  go_simp
                  refine hK.out _ _ ⟨fun h => absurd h (by decide), fun h => absurd h (by decide)⟩ (fun _ => ?_)
                  clear hK K
                  refine wpD_done (by kernel_rfl) ?_
                  go_wp2_with (fail)
                  go_meet
                  have HFE := fixR_end (n := w.heap.size) (c := b8) (f0 := .string fp.fr) (f1 := .string fp.to) (f2 := .int .i64 fp.sq) (f3 := .slice av fp.rs.length cv) HW.out hl13 hl14 hne M13.out HQ9.out (fun k hk => ⟨hk.1, by first | exact hk.2.1 | (have := hk.1.1; omega), by first | exact hk.2.2 | (have := hk.1.1; omega)⟩) HC.out
                  exact ⟨_, _, _, _, _, _, _, rfl, rfl, HFE.1, HFE.2.1, HFE.2.2⟩
              · rw [if_pos (show _ = true by kernel_rfl)]
                go_simp
                clear hHeld
                refine hK.out _ _ ⟨fun _ => (by (repeat (first | (with_reducible exact Below.refl _ _) | (with_reducible exact HW.out) | (with_reducible apply bl_drewN) | (with_reducible apply bl_alloc) | (with_reducible apply Below.drew))); done), fun h => absurd h (by decide)⟩ (fun hHeld0 => ?_)
                have hHeld := hHeld0.1 rfl
                clear hHeld0 hK K
                have hbA : Below wd.heap.size wd (wp11.alloc (.cells #[.string ⟨#[]⟩, .string ⟨#[]⟩, .int .i64 0, .slice none 0 0] 45)) := bl_alloc HW.out _
                have hmA := alloc1_0 wp11 (.cells #[.string ⟨#[]⟩, .string ⟨#[]⟩, .int .i64 0, .slice none 0 0] 45)
                have hl14 : wd.heap.size ≤ wp11.heap.size := HW.out.size
                have hmO := Go.Tw.Below.at_old (bl_alloc (Below.refl wp11.heap.size wp11) (.cells #[.string ⟨#[]⟩, .string ⟨#[]⟩, .int .i64 0, .slice none 0 0] 45)) M13.out
                have hnO : wd.heap.size < wp11.heap.size := lt_of_heap M13.out
                obtain ⟨wf14, hwN⟩ : ∃ wN, wp11.alloc (.cells #[.string ⟨#[]⟩, .string ⟨#[]⟩, .int .i64 0, .slice none 0 0] 45) = wN := ⟨_, rfl⟩
                rw [hwN] at hbA hmA hmO hHeld ⊢
                have hne : wd.heap.size ≠ wp11.heap.size := by omega
                clear hwN HW M13
                have HW := Lib.hid hbA
                have M14 := Lib.hid hmA
                have M13 := Lib.hid hmO
                clear hbA hmA hmO hnO
                refine wpD_ready (rs := [4]) (by kernel_rfl) (by kernel_rfl) ?_
                refine AllReadyD.cons rfl (fun K hK => ?_) (AllReadyD.nil)
                rw [if_pos (show _ = true by kernel_rfl)]
                go_simp
                go_wp2_with (
                  go_at_call 34
                  refine (HCC.out _ (by (repeat (first | (with_reducible exact Below.refl _ _) | (with_reducible exact HW.out) | (with_reducible apply bl_drewN) | (with_reducible apply bl_alloc) | (with_reducible apply Below.drew))); done)).mono ?_
                  rintro e w8 ⟨⟨vc, rfl, hvc⟩, hb9⟩
                  obtain ⟨a8, c8, rfl, -, -⟩ := hvc.form
                  have HVC := Lib.hid hvc.sl
                  have HB8 := Lib.hid (Below.refl w8.heap.size w8)
                  have hm13 := Go.Tw.Below.at_old hb9 M13.out
                  have M13' := Lib.hid (show w8.heap[(wd.heap.size)]? = some (.cells #[.string ⟨#[]⟩, .int .i64 0, .int .i64 0, .slice none 0 0, .slice none 0 0, .slice none 0 0] 29 (0, 0)) from hm13)
                  have hm14 := Go.Tw.Below.at_old hb9 M14.out
                  have M14' := Lib.hid (show w8.heap[(wp11.heap.size)]? = some (.cells #[.string ⟨#[]⟩, .string ⟨#[]⟩, .int .i64 0, .slice none 0 0] 45 (0, 0)) from hm14)
                  have HP1 := Lib.hid (show Below wd.heap.size wd w8 from by (refine bl_trans ?_ hb9; exact (by (repeat (first | (with_reducible exact Below.refl _ _) | (with_reducible exact HW.out) | (with_reducible apply bl_drewN) | (with_reducible apply bl_alloc) | (with_reducible apply Below.drew))); done)))
                  clear HW hb9 hvc M13 hm13 M14 hm14
                  have HW := HP1
                  have M13 := M13'
                  clear M13'
                  have M14 := M14'
                  clear M14'
                  clear HP1)
                clear hHeld
                refine hK.out _ _ ⟨fun _ => HW.out, fun h => absurd h (by decide)⟩ (fun hHeld0 => ?_)
                have hHeld := hHeld0.1 rfl
                clear hHeld0 hK K
                refine wpD_ready (rs := [5]) (by kernel_rfl) (by kernel_rfl) ?_
                refine AllReadyD.cons rfl (fun K hK => ?_) (AllReadyD.nil)
                rw [if_pos (show _ = true by kernel_rfl)]
                go_simp
                go_wp2_with (
                  go_at_call 25
                  refine (HSD.out _ _ (by (repeat (first | (with_reducible exact Below.refl _ _) | (with_reducible exact HW.out) | (with_reducible apply bl_drewN) | (with_reducible apply bl_alloc) | (with_reducible apply Below.drew))); done) (HVC.out.step (show Below w8.heap.size w8 _ from by (repeat (first | (with_reducible exact HB8.out) | (with_reducible apply bl_drewN) | (with_reducible apply Below.drew)))))).mono ?_
                  rintro e w9 ⟨⟨p1, s1, p2, s2, p3, s3, av, cv, rfl, hq9⟩, hb9⟩
                  have hlt := HK7.out.lt
                  have hW7 := HW.out.size
                  have hW9 : w8.heap.size ≤ w9.heap.size := hb9.size
                  have hl13' := lt_of_heap M13.out
                  have hl14' := lt_of_heap M14.out
                  have HQ9 := Lib.hid (hq9.keep (S' := fun k => MB w.heap.size b8 w9 k ∧ k ≠ (wd.heap.size) ∧ k ≠ (wp11.heap.size)) (w' := w9) (fun k hk => by
                    rcases hk with hk | hk
                    · have h0 := hk.1
                      exact ⟨MB.up (by omega) k hk, by first | trivial | omega, by first | trivial | omega⟩
                    · have h1 : w8.heap.size ≤ k := hk.1
                      exact ⟨⟨hk.2, .inr (by omega), by omega, by omega⟩, by first | trivial | omega, by first | trivial | omega⟩) (SameOn.refl _ _))
                  have hm13 := Go.Tw.Below.at_old hb9 M13.out
                  have M13' := Lib.hid (show w9.heap[(wd.heap.size)]? = some (.cells #[.string ⟨#[]⟩, .int .i64 0, .int .i64 0, .slice none 0 0, .slice none 0 0, .slice none 0 0] 29 (0, 0)) from hm13)
                  have hm14 := Go.Tw.Below.at_old hb9 M14.out
                  have M14' := Lib.hid (show w9.heap[(wp11.heap.size)]? = some (.cells #[.string ⟨#[]⟩, .string ⟨#[]⟩, .int .i64 0, .slice none 0 0] 45 (0, 0)) from hm14)
                  have HC := Lib.hid (Below.refl w9.heap.size w9)
                  have HP1 := Lib.hid (show Below wd.heap.size wd w9 from by (refine bl_trans ?_ hb9; exact (by (repeat (first | (with_reducible exact Below.refl _ _) | (with_reducible exact HW.out) | (with_reducible apply bl_drewN) | (with_reducible apply bl_alloc) | (with_reducible apply Below.drew))); done)))
                  clear HW HVC HB8 hb9 hq9 hlt hW7 hW9 M13 hm13 hl13' M14 hm14 hl14'
                  have HW := HP1
                  have M13 := M13'
                  clear M13'
                  have M14 := M14'
                  clear M14'
                  clear HP1)
                clear hHeld
                refine hK.out _ _ ⟨fun _ => HW.out, fun h => absurd h (by decide)⟩ (fun hHeld0 => ?_)
                have hHeld := hHeld0.1 rfl
                clear hHeld0 hK K
                refine wpD_take (i := 6) (v := ?_) rfl (by kernel_rfl) (fun _ _ _ h => h) (Or.inl ⟨by kernel_rfl, ?_⟩) (by assumption) ?_
                rotate_left
                focus (intro w9 hS9; (try dsimp only at hS9); go_simp; (try with_reducible rfl))
                (try simp only [Act.put])
                (try simp only [List.setIfInBounds_toArray])
                (repeat (first | simp only [Z1] | simp only [Z2]))
                refine wpD_take (i := 7) (v := ?_) rfl (by kernel_rfl) (fun _ _ _ h => h) (Or.inl ⟨by kernel_rfl, ?_⟩) (by assumption) ?_
                rotate_left
                focus (intro w9 hS9; (try dsimp only at hS9); go_simp; (try with_reducible rfl))
                (try simp only [Act.put])
                (try simp only [List.setIfInBounds_toArray])
                (repeat (first | simp only [Z1] | simp only [Z2]))
                refine wpD_pure (i := 8) (v := ?_) rfl (by kernel_rfl) (fun _ _ _ h => h) (Or.inl ⟨by kernel_rfl, ?_⟩) ?_
                rotate_left
                focus (intro w9 hS9; clear hS9; go_simp; (try with_reducible rfl))
                (try simp only [Act.put])
                (try simp only [List.setIfInBounds_toArray])
                (repeat (first | simp only [Z1] | simp only [Z2]))
                refine wpD_pure (i := 9) (v := ?_) rfl (by kernel_rfl) (fun _ _ _ h => h) (Or.inl ⟨by kernel_rfl, ?_⟩) ?_
                rotate_left
                focus (intro w9 hS9; clear hS9; go_simp; (try with_reducible rfl))
                (try simp only [Act.put])
                (try simp only [List.setIfInBounds_toArray])
                (repeat (first | simp only [Z1] | simp only [Z2]))
                obtain ⟨s0, s1', s2', s3', s4, s5, sf⟩ := blk6' M13.out
                obtain ⟨t0, t1', t2', t3', tf⟩ := blk4 M14.out
                have hn1 : ¬ (wd.heap.size) = (wp11.heap.size) := hne
                have hn2 : ¬ (wp11.heap.size) = (wd.heap.size) := fun e => hne e.symm
                refine wpD_ready (rs := [12]) (by kernel_rfl) (by kernel_rfl) ?_
                refine AllReadyD.cons rfl (fun K hK => ?_) AllReadyD.nil
                rw [if_pos (show _ = true by kernel_rfl)]
                go_simp
                refine hK.out _ _ ⟨fun h => absurd h (by decide), fun h => absurd h (by decide)⟩ (fun _ => ?_)
                clear hK K
                refine wpD_ready (rs := [13]) (by kernel_rfl) (by kernel_rfl) ?_
                refine AllReadyD.cons rfl (fun K hK => ?_) AllReadyD.nil
                rw [if_pos (show _ = true by kernel_rfl)]
                go_simp
                refine hK.out _ _ ⟨fun h => absurd h (by decide), fun h => absurd h (by decide)⟩ (fun _ => ?_)
                clear hK K
                refine wpD_ready (rs := [14]) (by kernel_rfl) (by kernel_rfl) ?_
                refine AllReadyD.cons rfl (fun K hK => ?_) AllReadyD.nil
                rw [if_pos (show _ = true by kernel_rfl)]
                go_simp
                refine hK.out _ _ ⟨fun h => absurd h (by decide), fun h => absurd h (by decide)⟩ (fun _ => ?_)
                clear hK K
                refine wpD_done (by kernel_rfl) ?_
                go_wp2_with (fail)
                go_meet
                have HFE := fixR_end (n := w.heap.size) (c := b8) (f0 := .string fp.fr) (f1 := .string fp.to) (f2 := .int .i64 fp.sq) (f3 := .slice av fp.rs.length cv) HW.out hl13 hl14 hne M13.out HQ9.out (fun k hk => ⟨hk.1, by first | exact hk.2.1 | (have := hk.1.1; omega), by first | exact hk.2.2 | (have := hk.1.1; omega)⟩) HC.out
                exact ⟨_, _, _, _, _, _, _, rfl, rfl, HFE.1, HFE.2.1, HFE.2.2⟩
            · rw [if_pos (show _ = true by kernel_rfl)]
              go_simp
              clear hHeld
              refine hK.out _ _ ⟨fun _ => (by (repeat (first | (with_reducible exact Below.refl _ _) | (with_reducible exact HW.out) | (with_reducible apply bl_drewN) | (with_reducible apply bl_alloc) | (with_reducible apply Below.drew))); done), fun h => absurd h (by decide)⟩ (fun hHeld0 => ?_)
              have hHeld := hHeld0.1 rfl
              clear hHeld0 hK K
              have hbA : Below wd.heap.size wd (wd.alloc (.cells #[.string ⟨#[]⟩, .string ⟨#[]⟩, .int .i64 0, .slice none 0 0] 45)) := bl_alloc HW.out _
              have hmA := alloc1_0 wd (.cells #[.string ⟨#[]⟩, .string ⟨#[]⟩, .int .i64 0, .slice none 0 0] 45)
              have hl14 : wd.heap.size ≤ wd.heap.size := HW.out.size
              obtain ⟨wf15, hwN⟩ : ∃ wN, wd.alloc (.cells #[.string ⟨#[]⟩, .string ⟨#[]⟩, .int .i64 0, .slice none 0 0] 45) = wN := ⟨_, rfl⟩
              rw [hwN] at hbA hmA hHeld ⊢
              clear hwN HW
              have HW := Lib.hid hbA
              have M14 := Lib.hid hmA
              clear hbA hmA
              refine wpD_ready (rs := [4, 10]) (by kernel_rfl) (by kernel_rfl) ?_
              refine AllReadyD.cons rfl (fun K hK => ?_) (AllReadyD.cons rfl (fun K hK => ?_) (AllReadyD.nil))
              · rw [if_pos (show _ = true by kernel_rfl)]
                go_simp
                go_wp2_with (
                  go_at_call 34
                  refine (HCC.out _ (by (repeat (first | (with_reducible exact Below.refl _ _) | (with_reducible exact HW.out) | (with_reducible apply bl_drewN) | (with_reducible apply bl_alloc) | (with_reducible apply Below.drew))); done)).mono ?_
                  rintro e w8 ⟨⟨vc, rfl, hvc⟩, hb9⟩
                  obtain ⟨a8, c8, rfl, -, -⟩ := hvc.form
                  have HVC := Lib.hid hvc.sl
                  have HB8 := Lib.hid (Below.refl w8.heap.size w8)
                  have hm14 := Go.Tw.Below.at_old hb9 M14.out
                  have M14' := Lib.hid (show w8.heap[(wd.heap.size)]? = some (.cells #[.string ⟨#[]⟩, .string ⟨#[]⟩, .int .i64 0, .slice none 0 0] 45 (0, 0)) from hm14)
                  have HP1 := Lib.hid (show Below wd.heap.size wd w8 from by (refine bl_trans ?_ hb9; exact (by (repeat (first | (with_reducible exact Below.refl _ _) | (with_reducible exact HW.out) | (with_reducible apply bl_drewN) | (with_reducible apply bl_alloc) | (with_reducible apply Below.drew))); done)))
                  clear HW hb9 hvc M14 hm14
                  have HW := HP1
                  have M14 := M14'
                  clear M14'
                  clear HP1)
                clear hHeld
                refine hK.out _ _ ⟨fun _ => HW.out, fun h => absurd h (by decide)⟩ (fun hHeld0 => ?_)
                have hHeld := hHeld0.1 rfl
                clear hHeld0 hK K
                refine wpD_ready (rs := [5, 10]) (by kernel_rfl) (by kernel_rfl) ?_
                refine AllReadyD.cons rfl (fun K hK => ?_) (AllReadyD.cons rfl (fun K hK => ?_) (AllReadyD.nil))
                · rw [if_pos (show _ = true by kernel_rfl)]
                  go_simp
                  go_wp2_with (
                    go_at_call 25
                    refine (HSD.out _ _ (by (repeat (first | (with_reducible exact Below.refl _ _) | (with_reducible exact HW.out) | (with_reducible apply bl_drewN) | (with_reducible apply bl_alloc) | (with_reducible apply Below.drew))); done) (HVC.out.step (show Below w8.heap.size w8 _ from by (repeat (first | (with_reducible exact HB8.out) | (with_reducible apply bl_drewN) | (with_reducible apply Below.drew)))))).mono ?_
                    rintro e w9 ⟨⟨p1, s1, p2, s2, p3, s3, av, cv, rfl, hq9⟩, hb9⟩
                    have hlt := HK7.out.lt
                    have hW7 := HW.out.size
                    have hW9 : w8.heap.size ≤ w9.heap.size := hb9.size
                    have hl14' := lt_of_heap M14.out
                    have HQ9 := Lib.hid (hq9.keep (S' := fun k => MB w.heap.size b8 w9 k ∧ True ∧ k ≠ (wd.heap.size)) (w' := w9) (fun k hk => by
                      rcases hk with hk | hk
                      · have h0 := hk.1
                        exact ⟨MB.up (by omega) k hk, by first | trivial | omega, by first | trivial | omega⟩
                      · have h1 : w8.heap.size ≤ k := hk.1
                        exact ⟨⟨hk.2, .inr (by omega), by omega, by omega⟩, by first | trivial | omega, by first | trivial | omega⟩) (SameOn.refl _ _))
                    have hm14 := Go.Tw.Below.at_old hb9 M14.out
                    have M14' := Lib.hid (show w9.heap[(wd.heap.size)]? = some (.cells #[.string ⟨#[]⟩, .string ⟨#[]⟩, .int .i64 0, .slice none 0 0] 45 (0, 0)) from hm14)
                    have HC := Lib.hid (Below.refl w9.heap.size w9)
                    have HP1 := Lib.hid (show Below wd.heap.size wd w9 from by (refine bl_trans ?_ hb9; exact (by (repeat (first | (with_reducible exact Below.refl _ _) | (with_reducible exact HW.out) | (with_reducible apply bl_drewN) | (with_reducible apply bl_alloc) | (with_reducible apply Below.drew))); done)))
                    clear HW HVC HB8 hb9 hq9 hlt hW7 hW9 M14 hm14 hl14'
                    have HW := HP1
                    have M14 := M14'
                    clear M14'
                    clear HP1)
                  clear hHeld
                  refine hK.out _ _ ⟨fun _ => HW.out, fun h => absurd h (by decide)⟩ (fun hHeld0 => ?_)
                  have hHeld := hHeld0.1 rfl
                  clear hHeld0 hK K
                  refine wpD_take (i := 6) (v := ?_) rfl (by kernel_rfl) (fun _ _ _ h => h) (Or.inl ⟨by kernel_rfl, ?_⟩) (by assumption) ?_
                  rotate_left
                  focus (intro w9 hS9; (try dsimp only at hS9); go_simp; (try with_reducible rfl))
                  (try simp only [Act.put])
                  (try simp only [List.setIfInBounds_toArray])
                  (repeat (first | simp only [Z1] | simp only [Z2]))
                  refine wpD_take (i := 7) (v := ?_) rfl (by kernel_rfl) (fun _ _ _ h => h) (Or.inl ⟨by kernel_rfl, ?_⟩) (by assumption) ?_
                  rotate_left
                  focus (intro w9 hS9; (try dsimp only at hS9); go_simp; (try with_reducible rfl))
                  (try simp only [Act.put])
                  (try simp only [List.setIfInBounds_toArray])
                  (repeat (first | simp only [Z1] | simp only [Z2]))
                  refine wpD_pure (i := 8) (v := ?_) rfl (by kernel_rfl) (fun _ _ _ h => h) (Or.inl ⟨by kernel_rfl, ?_⟩) ?_
                  rotate_left
                  focus (intro w9 hS9; clear hS9; go_simp; (try with_reducible rfl))
                  (try simp only [Act.put])
                  (try simp only [List.setIfInBounds_toArray])
                  (repeat (first | simp only [Z1] | simp only [Z2]))
                  refine wpD_pure (i := 9) (v := ?_) rfl (by kernel_rfl) (fun _ _ _ h => h) (Or.inl ⟨by kernel_rfl, ?_⟩) ?_
                  rotate_left
                  focus (intro w9 hS9; clear hS9; go_simp; (try with_reducible rfl))
                  (try simp only [Act.put])
                  (try simp only [List.setIfInBounds_toArray])
                  (repeat (first | simp only [Z1] | simp only [Z2]))
                  refine wpD_ready (rs := [10]) (by kernel_rfl) (by kernel_rfl) ?_
                  refine AllReadyD.cons rfl (fun K hK => ?_) (AllReadyD.nil)
                  rw [if_pos (show _ = true by kernel_rfl)]
                  go_simp
                  clear hHeld
                  refine hK.out _ _ ⟨fun _ => (by (repeat (first | (with_reducible exact Below.refl _ _) | (with_reducible exact HW.out) | (with_reducible apply bl_drewN) | (with_reducible apply bl_alloc) | (with_reducible apply Below.drew))); done), fun h => absurd h (by decide)⟩ (fun hHeld0 => ?_)
                  have hHeld := hHeld0.1 rfl
                  clear hHeld0 hK K
                  have hbA : Below wd.heap.size wd (w9.alloc (.cells #[.string ⟨#[]⟩, .int .i64 0, .int .i64 0, .slice none 0 0, .slice none 0 0, .slice none 0 0] 29)) := bl_alloc HW.out _
                  have hmA := alloc1_0 w9 (.cells #[.string ⟨#[]⟩, .int .i64 0, .int .i64 0, .slice none 0 0, .slice none 0 0, .slice none 0 0] 29)
                  have hl13 : wd.heap.size ≤ w9.heap.size := HW.out.size
                  have hmO := Go.Tw.Below.at_old (bl_alloc (Below.refl w9.heap.size w9) (.cells #[.string ⟨#[]⟩, .int .i64 0, .int .i64 0, .slice none 0 0, .slice none 0 0, .slice none 0 0] 29)) M14.out
                  have hnO : wd.heap.size < w9.heap.size := lt_of_heap M14.out
                  have h9A : Below w9.heap.size w9 (w9.alloc (.cells #[.string ⟨#[]⟩, .int .i64 0, .int .i64 0, .slice none 0 0, .slice none 0 0, .slice none 0 0] 29)) := bl_alloc HC.out _
                  have hg13 : w9.heap.size ≤ w9.heap.size := HC.out.size
                  obtain ⟨wp16, hwN⟩ : ∃ wN, w9.alloc (.cells #[.string ⟨#[]⟩, .int .i64 0, .int .i64 0, .slice none 0 0, .slice none 0 0, .slice none 0 0] 29) = wN := ⟨_, rfl⟩
                  rw [hwN] at hbA hmA hmO h9A hHeld ⊢
                  have hne : w9.heap.size ≠ wd.heap.size := by omega
                  clear hwN HW M14 HC
                  have HW := Lib.hid hbA
                  have M13 := Lib.hid hmA
                  have M14 := Lib.hid hmO
                  have HC := Lib.hid h9A
                  clear hbA hmA hmO h9A hnO
                  obtain ⟨s0, s1', s2', s3', s4, s5, sf⟩ := blk6' M13.out
                  obtain ⟨t0, t1', t2', t3', tf⟩ := blk4 M14.out
                  have hn1 : ¬ (w9.heap.size) = (wd.heap.size) := hne
                  have hn2 : ¬ (wd.heap.size) = (w9.heap.size) := fun e => hne e.symm
                  refine wpD_ready (rs := [12]) (by kernel_rfl) (by kernel_rfl) ?_
                  refine AllReadyD.cons rfl (fun K hK => ?_) AllReadyD.nil
                  rw [if_pos (show _ = true by kernel_rfl)]
                  go_simp
                  refine hK.out _ _ ⟨fun h => absurd h (by decide), fun h => absurd h (by decide)⟩ (fun _ => ?_)
                  clear hK K
                  refine wpD_ready (rs := [13]) (by kernel_rfl) (by kernel_rfl) ?_
                  refine AllReadyD.cons rfl (fun K hK => ?_) AllReadyD.nil
                  rw [if_pos (show _ = true by kernel_rfl)]
                  go_simp
                  refine hK.out _ _ ⟨fun h => absurd h (by decide), fun h => absurd h (by decide)⟩ (fun _ => ?_)
                  clear hK K
                  refine wpD_ready (rs := [14]) (by kernel_rfl) (by kernel_rfl) ?_
                  refine AllReadyD.cons rfl (fun K hK => ?_) AllReadyD.nil
                  rw [if_pos (show _ = true by kernel_rfl)]
                  go_simp
                  refine hK.out _ _ ⟨fun h => absurd h (by decide), fun h => absurd h (by decide)⟩ (fun _ => ?_)
                  clear hK K
                  refine wpD_done (by kernel_rfl) ?_
                  go_wp2_with (fail)
                  go_meet
                  have HFE := fixR_end (n := w.heap.size) (c := b8) (f0 := .string fp.fr) (f1 := .string fp.to) (f2 := .int .i64 fp.sq) (f3 := .slice av fp.rs.length cv) HW.out hl13 hl14 hne M13.out HQ9.out (fun k hk => ⟨hk.1, by first | exact hk.2.1 | (have := hk.1.1; omega), by first | exact hk.2.2 | (have := hk.1.1; omega)⟩) HC.out
                  exact ⟨_, _, _, _, _, _, _, rfl, rfl, HFE.1, HFE.2.1, HFE.2.2⟩
                · rw [if_pos (show _ = true by kernel_rfl)]
                  go_simp
                  clear hHeld
                  refine hK.out _ _ ⟨fun _ => (by (repeat (first | (with_reducible exact Below.refl _ _) | (with_reducible exact HW.out) | (with_reducible apply bl_drewN) | (with_reducible apply bl_alloc) | (with_reducible apply Below.drew))); done), fun h => absurd h (by decide)⟩ (fun hHeld0 => ?_)
                  have hHeld := hHeld0.1 rfl
                  clear hHeld0 hK K
                  have hbA : Below wd.heap.size wd (w8.alloc (.cells #[.string ⟨#[]⟩, .int .i64 0, .int .i64 0, .slice none 0 0, .slice none 0 0, .slice none 0 0] 29)) := bl_alloc HW.out _
                  have hmA := alloc1_0 w8 (.cells #[.string ⟨#[]⟩, .int .i64 0, .int .i64 0, .slice none 0 0, .slice none 0 0, .slice none 0 0] 29)
                  have hl13 : wd.heap.size ≤ w8.heap.size := HW.out.size
                  have hmO := Go.Tw.Below.at_old (bl_alloc (Below.refl w8.heap.size w8) (.cells #[.string ⟨#[]⟩, .int .i64 0, .int .i64 0, .slice none 0 0, .slice none 0 0, .slice none 0 0] 29)) M14.out
                  have hnO : wd.heap.size < w8.heap.size := lt_of_heap M14.out
                  have h8A : Below w8.heap.size w8 (w8.alloc (.cells #[.string ⟨#[]⟩, .int .i64 0, .int .i64 0, .slice none 0 0, .slice none 0 0, .slice none 0 0] 29)) := bl_alloc HB8.out _
                  obtain ⟨wp17, hwN⟩ : ∃ wN, w8.alloc (.cells #[.string ⟨#[]⟩, .int .i64 0, .int .i64 0, .slice none 0 0, .slice none 0 0, .slice none 0 0] 29) = wN := ⟨_, rfl⟩
                  rw [hwN] at hbA hmA hmO h8A hHeld ⊢
                  have hne : w8.heap.size ≠ wd.heap.size := by omega
                  clear hwN HW M14 HB8
                  have HW := Lib.hid hbA
                  have M13 := Lib.hid hmA
                  have M14 := Lib.hid hmO
                  have HB8 := Lib.hid h8A
                  clear hbA hmA hmO h8A hnO
                  refine wpD_ready (rs := [5]) (by kernel_rfl) (by kernel_rfl) ?_
                  refine AllReadyD.cons rfl (fun K hK => ?_) (AllReadyD.nil)
                  rw [if_pos (show _ = true by kernel_rfl)]
                  go_simp
                  go_wp2_with (
                    go_at_call 25
                    refine (HSD.out _ _ (by (repeat (first | (with_reducible exact Below.refl _ _) | (with_reducible exact HW.out) | (with_reducible apply bl_drewN) | (with_reducible apply bl_alloc) | (with_reducible apply Below.drew))); done) (HVC.out.step (show Below w8.heap.size w8 _ from by (repeat (first | (with_reducible exact HB8.out) | (with_reducible apply bl_drewN) | (with_reducible apply Below.drew)))))).mono ?_
                    rintro e w9 ⟨⟨p1, s1, p2, s2, p3, s3, av, cv, rfl, hq9⟩, hb9⟩
                    have hlt := HK7.out.lt
                    have hW7 := HW.out.size
                    have hW9 : wp17.heap.size ≤ w9.heap.size := hb9.size
                    have hl13' := lt_of_heap M13.out
                    have hl14' := lt_of_heap M14.out
                    have HQ9 := Lib.hid (hq9.keep (S' := fun k => MB w.heap.size b8 w9 k ∧ k ≠ (w8.heap.size) ∧ k ≠ (wd.heap.size)) (w' := w9) (fun k hk => by
                      rcases hk with hk | hk
                      · have h0 := hk.1
                        exact ⟨MB.up (by omega) k hk, by first | trivial | omega, by first | trivial | omega⟩
                      · have h1 : wp17.heap.size ≤ k := hk.1
                        exact ⟨⟨hk.2, .inr (by omega), by omega, by omega⟩, by first | trivial | omega, by first | trivial | omega⟩) (SameOn.refl _ _))
                    have hm13 := Go.Tw.Below.at_old hb9 M13.out
                    have M13' := Lib.hid (show w9.heap[(w8.heap.size)]? = some (.cells #[.string ⟨#[]⟩, .int .i64 0, .int .i64 0, .slice none 0 0, .slice none 0 0, .slice none 0 0] 29 (0, 0)) from hm13)
                    have hm14 := Go.Tw.Below.at_old hb9 M14.out
                    have M14' := Lib.hid (show w9.heap[(wd.heap.size)]? = some (.cells #[.string ⟨#[]⟩, .string ⟨#[]⟩, .int .i64 0, .slice none 0 0] 45 (0, 0)) from hm14)
                    have HC := Lib.hid (Below.refl w9.heap.size w9)
                    have HP1 := Lib.hid (show Below wd.heap.size wd w9 from by (refine bl_trans ?_ hb9; exact (by (repeat (first | (with_reducible exact Below.refl _ _) | (with_reducible exact HW.out) | (with_reducible apply bl_drewN) | (with_reducible apply bl_alloc) | (with_reducible apply Below.drew))); done)))
                    clear HW HVC HB8 hb9 hq9 hlt hW7 hW9 M13 hm13 hl13' M14 hm14 hl14'
                    have HW := HP1
                    have M13 := M13'
                    clear M13'
                    have M14 := M14'
                    clear M14'
                    clear HP1)
                  clear hHeld
                  refine hK.out _ _ ⟨fun _ => HW.out, fun h => absurd h (by decide)⟩ (fun hHeld0 => ?_)
                  have hHeld := hHeld0.1 rfl
                  clear hHeld0 hK K
                  refine wpD_take (i := 6) (v := ?_) rfl (by kernel_rfl) (fun _ _ _ h => h) (Or.inl ⟨by kernel_rfl, ?_⟩) (by assumption) ?_
                  rotate_left
                  focus (intro w9 hS9; (try dsimp only at hS9); go_simp; (try with_reducible rfl))
                  (try simp only [Act.put])
                  (try simp only [List.setIfInBounds_toArray])
                  (repeat (first | simp only [Z1] | simp only [Z2]))
                  refine wpD_take (i := 7) (v := ?_) rfl (by kernel_rfl) (fun _ _ _ h => h) (Or.inl ⟨by kernel_rfl, ?_⟩) (by assumption) ?_
                  rotate_left
                  focus (intro w9 hS9; (try dsimp only at hS9); go_simp; (try with_reducible rfl))
                  (try simp only [Act.put])
                  (try simp only [List.setIfInBounds_toArray])
                  (repeat (first | simp only [Z1] | simp only [Z2]))
                  refine wpD_pure (i := 8) (v := ?_) rfl (by kernel_rfl) (fun _ _ _ h => h) (Or.inl ⟨by kernel_rfl, ?_⟩) ?_
                  rotate_left
                  focus (intro w9 hS9; clear hS9; go_simp; (try with_reducible rfl))
                  (try simp only [Act.put])
                  (try simp only [List.setIfInBounds_toArray])
                  (repeat (first | simp only [Z1] | simp only [Z2]))
                  refine wpD_pure (i := 9) (v := ?_) rfl (by kernel_rfl) (fun _ _ _ h => h) (Or.inl ⟨by kernel_rfl, ?_⟩) ?_
                  rotate_left
                  focus (intro w9 hS9; clear hS9; go_simp; (try with_reducible rfl))
                  (try simp only [Act.put])
                  (try simp only [List.setIfInBounds_toArray])
                  (repeat (first | simp only [Z1] | simp only [Z2]))
                  obtain ⟨s0, s1', s2', s3', s4, s5, sf⟩ := blk6' M13.out
                  obtain ⟨t0, t1', t2', t3', tf⟩ := blk4 M14.out
                  have hn1 : ¬ (w8.heap.size) = (wd.heap.size) := hne
                  have hn2 : ¬ (wd.heap.size) = (w8.heap.size) := fun e => hne e.symm
                  refine wpD_ready (rs := [12]) (by kernel_rfl) (by kernel_rfl) ?_
                  refine AllReadyD.cons rfl (fun K hK => ?_) AllReadyD.nil
                  rw [if_pos (show _ = true by kernel_rfl)]
                  go_simp
                  refine hK.out _ _ ⟨fun h => absurd h (by decide), fun h => absurd h (by decide)⟩ (fun _ => ?_)
                  clear hK K
                  refine wpD_ready (rs := [13]) (by kernel_rfl) (by kernel_rfl) ?_
                  refine AllReadyD.cons rfl (fun K hK => ?_) AllReadyD.nil
                  rw [if_pos (show _ = true by kernel_rfl)]
                  go_simp
                  refine hK.out _ _ ⟨fun h => absurd h (by decide), fun h => absurd h (by decide)⟩ (fun _ => ?_)
                  clear hK K
                  refine wpD_ready (rs := [14]) (by kernel_rfl) (by kernel_rfl) ?_
                  refine AllReadyD.cons rfl (fun K hK => ?_) AllReadyD.nil
                  rw [if_pos (show _ = true by kernel_rfl)]
                  go_simp
                  refine hK.out _ _ ⟨fun h => absurd h (by decide), fun h => absurd h (by decide)⟩ (fun _ => ?_)
                  clear hK K
                  refine wpD_done (by kernel_rfl) ?_
                  go_wp2_with (fail)
                  go_meet
                  have HFE := fixR_end (n := w.heap.size) (c := b8) (f0 := .string fp.fr) (f1 := .string fp.to) (f2 := .int .i64 fp.sq) (f3 := .slice av fp.rs.length cv) HW.out hl13 hl14 hne M13.out HQ9.out (fun k hk => ⟨hk.1, by first | exact hk.2.1 | (have := hk.1.1; omega), by first | exact hk.2.2 | (have := hk.1.1; omega)⟩) HC.out
                  exact ⟨_, _, _, _, _, _, _, rfl, rfl, HFE.1, HFE.2.1, HFE.2.2⟩
              · rw [if_pos (show _ = true by kernel_rfl)]
                go_simp
                clear hHeld
                refine hK.out _ _ ⟨fun _ => (by (repeat (first | (with_reducible exact Below.refl _ _) | (with_reducible exact HW.out) | (with_reducible apply bl_drewN) | (with_reducible apply bl_alloc) | (with_reducible apply Below.drew))); done), fun h => absurd h (by decide)⟩ (fun hHeld0 => ?_)
                have hHeld := hHeld0.1 rfl
                clear hHeld0 hK K
                have hbA : Below wd.heap.size wd (wf15.alloc (.cells #[.string ⟨#[]⟩, .int .i64 0, .int .i64 0, .slice none 0 0, .slice none 0 0, .slice none 0 0] 29)) := bl_alloc HW.out _
                have hmA := alloc1_0 wf15 (.cells #[.string ⟨#[]⟩, .int .i64 0, .int .i64 0, .slice none 0 0, .slice none 0 0, .slice none 0 0] 29)
                have hl13 : wd.heap.size ≤ wf15.heap.size := HW.out.size
                have hmO := Go.Tw.Below.at_old (bl_alloc (Below.refl wf15.heap.size wf15) (.cells #[.string ⟨#[]⟩, .int .i64 0, .int .i64 0, .slice none 0 0, .slice none 0 0, .slice none 0 0] 29)) M14.out
                have hnO : wd.heap.size < wf15.heap.size := lt_of_heap M14.out
                obtain ⟨wp18, hwN⟩ : ∃ wN, wf15.alloc (.cells #[.string ⟨#[]⟩, .int .i64 0, .int .i64 0, .slice none 0 0, .slice none 0 0, .slice none 0 0] 29) = wN := ⟨_, rfl⟩
                rw [hwN] at hbA hmA hmO hHeld ⊢
                have hne : wf15.heap.size ≠ wd.heap.size := by omega
                clear hwN HW M14
                have HW := Lib.hid hbA
                have M13 := Lib.hid hmA
                have M14 := Lib.hid hmO
                clear hbA hmA hmO hnO
                refine wpD_ready (rs := [4]) (by kernel_rfl) (by kernel_rfl) ?_
                refine AllReadyD.cons rfl (fun K hK => ?_) (AllReadyD.nil)
                rw [if_pos (show _ = true by kernel_rfl)]
                go_simp
                go_wp2_with (
                  go_at_call 34
                  refine (HCC.out _ (by (repeat (first | (with_reducible exact Below.refl _ _) | (with_reducible exact HW.out) | (with_reducible apply bl_drewN) | (with_reducible apply bl_alloc) | (with_reducible apply Below.drew))); done)).mono ?_
                  rintro e w8 ⟨⟨vc, rfl, hvc⟩, hb9⟩
                  obtain ⟨a8, c8, rfl, -, -⟩ := hvc.form
                  have HVC := Lib.hid hvc.sl
                  have HB8 := Lib.hid (Below.refl w8.heap.size w8)
                  have hm13 := Go.Tw.Below.at_old hb9 M13.out
                  have M13' := Lib.hid (show w8.heap[(wf15.heap.size)]? = some (.cells #[.string ⟨#[]⟩, .int .i64 0, .int .i64 0, .slice none 0 0, .slice none 0 0, .slice none 0 0] 29 (0, 0)) from hm13)
                  have hm14 := Go.Tw.Below.at_old hb9 M14.out
                  have M14' := Lib.hid (show w8.heap[(wd.heap.size)]? = some (.cells #[.string ⟨#[]⟩, .string ⟨#[]⟩, .int .i64 0, .slice none 0 0] 45 (0, 0)) from hm14)
                  have HP1 := Lib.hid (show Below wd.heap.size wd w8 from by (refine bl_trans ?_ hb9; exact (by (repeat (first | (with_reducible exact Below.refl _ _) | (with_reducible exact HW.out) | (with_reducible apply bl_drewN) | (with_reducible apply bl_alloc) | (with_reducible apply Below.drew))); done)))
                  clear HW hb9 hvc M13 hm13 M14 hm14
                  have HW := HP1
                  have M13 := M13'
                  clear M13'
                  have M14 := M14'
                  clear M14'
                  clear HP1)
                clear hHeld
                refine hK.out _ _ ⟨fun _ => HW.out, fun h => absurd h (by decide)⟩ (fun hHeld0 => ?_)
                have hHeld := hHeld0.1 rfl
                clear hHeld0 hK K
                refine wpD_ready (rs := [5]) (by kernel_rfl) (by kernel_rfl) ?_
                refine AllReadyD.cons rfl (fun K hK => ?_) (AllReadyD.nil)
                rw [if_pos (show _ = true by kernel_rfl)]
                go_simp
                go_wp2_with (
                  go_at_call 25
                  refine (HSD.out _ _ (by (repeat (first | (with_reducible exact Below.refl _ _) | (with_reducible exact HW.out) | (with_reducible apply bl_drewN) | (with_reducible apply bl_alloc) | (with_reducible apply Below.drew))); done) (HVC.out.step (show Below w8.heap.size w8 _ from by (repeat (first | (with_reducible exact HB8.out) | (with_reducible apply bl_drewN) | (with_reducible apply Below.drew)))))).mono ?_
                  rintro e w9 ⟨⟨p1, s1, p2, s2, p3, s3, av, cv, rfl, hq9⟩, hb9⟩
                  have hlt := HK7.out.lt
                  have hW7 := HW.out.size
                  have hW9 : w8.heap.size ≤ w9.heap.size := hb9.size
                  have hl13' := lt_of_heap M13.out
                  have hl14' := lt_of_heap M14.out
                  have HQ9 := Lib.hid (hq9.keep (S' := fun k => MB w.heap.size b8 w9 k ∧ k ≠ (wf15.heap.size) ∧ k ≠ (wd.heap.size)) (w' := w9) (fun k hk => by
                    rcases hk with hk | hk
                    · have h0 := hk.1
                      exact ⟨MB.up (by omega) k hk, by first | trivial | omega, by first | trivial | omega⟩
                    · have h1 : w8.heap.size ≤ k := hk.1
                      exact ⟨⟨hk.2, .inr (by omega), by omega, by omega⟩, by first | trivial | omega, by first | trivial | omega⟩) (SameOn.refl _ _))
                  have hm13 := Go.Tw.Below.at_old hb9 M13.out
                  have M13' := Lib.hid (show w9.heap[(wf15.heap.size)]? = some (.cells #[.string ⟨#[]⟩, .int .i64 0, .int .i64 0, .slice none 0 0, .slice none 0 0, .slice none 0 0] 29 (0, 0)) from hm13)
                  have hm14 := Go.Tw.Below.at_old hb9 M14.out
                  have M14' := Lib.hid (show w9.heap[(wd.heap.size)]? = some (.cells #[.string ⟨#[]⟩, .string ⟨#[]⟩, .int .i64 0, .slice none 0 0] 45 (0, 0)) from hm14)
                  have HC := Lib.hid (Below.refl w9.heap.size w9)
                  have HP1 := Lib.hid (show Below wd.heap.size wd w9 from by (refine bl_trans ?_ hb9; exact (by (repeat (first | (with_reducible exact Below.refl _ _) | (with_reducible exact HW.out) | (with_reducible apply bl_drewN) | (with_reducible apply bl_alloc) | (with_reducible apply Below.drew))); done)))
                  clear HW HVC HB8 hb9 hq9 hlt hW7 hW9 M13 hm13 hl13' M14 hm14 hl14'
                  have HW := HP1
                  have M13 := M13'
                  clear M13'
                  have M14 := M14'
                  clear M14'
                  clear HP1)
                clear hHeld
                refine hK.out _ _ ⟨fun _ => HW.out, fun h => absurd h (by decide)⟩ (fun hHeld0 => ?_)
                have hHeld := hHeld0.1 rfl
                clear hHeld0 hK K
                refine wpD_take (i := 6) (v := ?_) rfl (by kernel_rfl) (fun _ _ _ h => h) (Or.inl ⟨by kernel_rfl, ?_⟩) (by assumption) ?_
                rotate_left
                focus (intro w9 hS9; (try dsimp only at hS9); go_simp; (try with_reducible rfl))
                (try simp only [Act.put])
                (try simp only [List.setIfInBounds_toArray])
                (repeat (first | simp only [Z1] | simp only [Z2]))
                refine wpD_take (i := 7) (v := ?_) rfl (by kernel_rfl) (fun _ _ _ h => h) (Or.inl ⟨by kernel_rfl, ?_⟩) (by assumption) ?_
                rotate_left
                focus (intro w9 hS9; (try dsimp only at hS9); go_simp; (try with_reducible rfl))
                (try simp only [Act.put])
                (try simp only [List.setIfInBounds_toArray])
                (repeat (first | simp only [Z1] | simp only [Z2]))
                refine wpD_pure (i := 8) (v := ?_) rfl (by kernel_rfl) (fun _ _ _ h => h) (Or.inl ⟨by kernel_rfl, ?_⟩) ?_
                rotate_left
                focus (intro w9 hS9; clear hS9; go_simp; (try with_reducible rfl))
                (try simp only [Act.put])
                (try simp only [List.setIfInBounds_toArray])
                (repeat (first | simp only [Z1] | simp only [Z2]))
                refine wpD_pure (i := 9) (v := ?_) rfl (by kernel_rfl) (fun _ _ _ h => h) (Or.inl ⟨by kernel_rfl, ?_⟩) ?_
                rotate_left
                focus (intro w9 hS9; clear hS9; go_simp; (try with_reducible rfl))
                (try simp only [Act.put])
                (try simp only [List.setIfInBounds_toArray])
                (repeat (first | simp only [Z1] | simp only [Z2]))
                obtain ⟨s0, s1', s2', s3', s4, s5, sf⟩ := blk6' M13.out
                obtain ⟨t0, t1', t2', t3', tf⟩ := blk4 M14.out
                have hn1 : ¬ (wf15.heap.size) = (wd.heap.size) := hne
                have hn2 : ¬ (wd.heap.size) = (wf15.heap.size) := fun e => hne e.symm
                refine wpD_ready (rs := [12]) (by kernel_rfl) (by kernel_rfl) ?_
                refine AllReadyD.cons rfl (fun K hK => ?_) AllReadyD.nil
                rw [if_pos (show _ = true by kernel_rfl)]
                go_simp
                refine hK.out _ _ ⟨fun h => absurd h (by decide), fun h => absurd h (by decide)⟩ (fun _ => ?_)
                clear hK K
                refine wpD_ready (rs := [13]) (by kernel_rfl) (by kernel_rfl) ?_
                refine AllReadyD.cons rfl (fun K hK => ?_) AllReadyD.nil
                rw [if_pos (show _ = true by kernel_rfl)]
                go_simp
                refine hK.out _ _ ⟨fun h => absurd h (by decide), fun h => absurd h (by decide)⟩ (fun _ => ?_)
                clear hK K
                refine wpD_ready (rs := [14]) (by kernel_rfl) (by kernel_rfl) ?_
                refine AllReadyD.cons rfl (fun K hK => ?_) AllReadyD.nil
                rw [if_pos (show _ = true by kernel_rfl)]
                go_simp
                refine hK.out _ _ ⟨fun h => absurd h (by decide), fun h => absurd h (by decide)⟩ (fun _ => ?_)
                clear hK K
                refine wpD_done (by kernel_rfl) ?_
                go_wp2_with (fail)
                go_meet
                have HFE := fixR_end (n := w.heap.size) (c := b8) (f0 := .string fp.fr) (f1 := .string fp.to) (f2 := .int .i64 fp.sq) (f3 := .slice av fp.rs.length cv) HW.out hl13 hl14 hne M13.out HQ9.out (fun k hk => ⟨hk.1, by first | exact hk.2.1 | (have := hk.1.1; omega), by first | exact hk.2.2 | (have := hk.1.1; omega)⟩) HC.out
                exact ⟨_, _, _, _, _, _, _, rfl, rfl, HFE.1, HFE.2.1, HFE.2.2⟩
          case rest =>
            obtain ⟨b13, p1', s1', p2', s2', p3', s3', rfl, rfl, h13, hbc, hpc⟩ := hcut
            have HB13 := Lib.hid h13
            have HP9 := Lib.hid hpc
            have HKC := Lib.hid (HK7.out.step hbc)
            clear h13 hpc hbc HX8 HXB HCC HSD HW
            by_cases q3 : er2 ≠ 0
            · have q3' : (er2 != 0) = true := by simpa using q3
              have HR := Lib.hid (show reconC a b = (a, b, 0, er2) from by rw [HRC.out, HFX.out, HF.out]; unfold rec2; rw [if_neg (by simp), if_pos q3])
              clear q3
              go_upto_region 14 with (fail)
              have HRB := Lib.hid HKC.out.rb
              have hne1 : w.heap.size ≠ w.heap.size + 1 + 1 ∧ w.heap.size ≠ w.heap.size + 1 + 1 + 1 := by omega
              have hne2 : w.heap.size + 1 ≠ w.heap.size + 1 + 1 ∧ w.heap.size + 1 ≠ w.heap.size + 1 + 1 + 1 := by omega
              have HXA := Lib.hid (box6X HRB.out.pa hne1.1 hne1.2)
              have HXB := Lib.hid (box6X HRB.out.pb hne2.1 hne2.2)
              clear hne1 hne2
              refine wp_region_D (fun j => if j < 7 then 0 else if j < 7 then 1 else 2) (fun w' => KeepX (w.heap.size + 1 + 1) (w.heap.size + 1 + 1 + 1) _ w') (by kernel_rfl) (KeepX.drew (KeepX.refl _ _ _)) (fun hHeld => ?_)
              refine wpD_take (i := 0) (v := ?_) rfl (by kernel_rfl) (fun _ _ _ h => h) (Or.inl ⟨by kernel_rfl, ?_⟩) (by assumption) ?_
              rotate_left
              focus (intro w9 hS9; obtain ⟨z0, z1, z2, z3, z4, z5⟩ := HXA.out w9 hS9; clear hS9; go_simp; (try with_reducible rfl))
              (try simp only [Act.put])
              (try simp only [List.setIfInBounds_toArray])
              (repeat (first | simp only [Z1] | simp only [Z2]))
              refine wpD_take (i := 1) (v := ?_) rfl (by kernel_rfl) (fun _ _ _ h => h) (Or.inl ⟨by kernel_rfl, ?_⟩) (by assumption) ?_
              rotate_left
              focus (intro w9 hS9; obtain ⟨z0, z1, z2, z3, z4, z5⟩ := HXB.out w9 hS9; clear hS9; go_simp; (try with_reducible rfl))
              (try simp only [Act.put])
              (try simp only [List.setIfInBounds_toArray])
              (repeat (first | simp only [Z1] | simp only [Z2]))
              refine wpD_take (i := 2) (v := ?_) rfl (by kernel_rfl) (fun _ _ _ h => h) (Or.inl ⟨by kernel_rfl, ?_⟩) (by assumption) ?_
              rotate_left
              focus (intro w9 hS9; (try dsimp only at hS9); go_simp; (try with_reducible rfl))
              (try simp only [Act.put])
              (try simp only [List.setIfInBounds_toArray])
              (repeat (first | simp only [Z1] | simp only [Z2]))
              obtain ⟨s0, s1, s2, s3, s4, s5, sf⟩ := blk6' HRB.out.ra
              obtain ⟨t0, t1, t2, t3, t4, t5, tf⟩ := blk6' HRB.out.rb
              refine wpD_ready (rs := [3]) (by kernel_rfl) (by kernel_rfl) ?_
              refine AllReadyD.cons rfl (fun K hK => ?_) AllReadyD.nil
              rw [if_pos (show _ = true by kernel_rfl)]
              go_simp
              clear hHeld
              refine hK.out _ _ ⟨fun _ => (by with_reducible exact KeepX.drew (KeepX.set6 (KeepX.refl _ _ _) (.inl rfl))), fun h => absurd h (by decide)⟩ (fun hHeld0 => ?_)
              have hHeld := hHeld0.1 rfl
              clear hHeld0 hK K
              refine wpD_ready (rs := [4]) (by kernel_rfl) (by kernel_rfl) ?_
              refine AllReadyD.cons rfl (fun K hK => ?_) AllReadyD.nil
              rw [if_pos (show _ = true by kernel_rfl)]
              go_simp
              clear hHeld
              refine hK.out _ _ ⟨fun _ => (by with_reducible exact KeepX.drew (KeepX.set6 (KeepX.set6 (KeepX.refl _ _ _) (.inl rfl)) (.inr rfl))), fun h => absurd h (by decide)⟩ (fun hHeld0 => ?_)
              have hHeld := hHeld0.1 rfl
              clear hHeld0 hK K
              refine wpD_ready (rs := [5]) (by kernel_rfl) (by kernel_rfl) ?_
              refine AllReadyD.cons rfl (fun K hK => ?_) AllReadyD.nil
              rw [if_pos (show _ = true by kernel_rfl)]
              go_simp
              clear hHeld
              refine hK.out _ _ ⟨fun _ => (by with_reducible exact KeepX.drew (KeepX.set6 (KeepX.set6 (KeepX.refl _ _ _) (.inl rfl)) (.inr rfl))), fun h => absurd h (by decide)⟩ (fun hHeld0 => ?_)
              have hHeld := hHeld0.1 rfl
              clear hHeld0 hK K
              refine wpD_ready (rs := [6]) (by kernel_rfl) (by kernel_rfl) ?_
              refine AllReadyD.cons rfl (fun K hK => ?_) AllReadyD.nil
              rw [if_pos (show _ = true by kernel_rfl)]
              go_simp
              clear hHeld
              refine hK.out _ _ ⟨fun _ => (by with_reducible exact KeepX.drew (KeepX.set6 (KeepX.set6 (KeepX.refl _ _ _) (.inl rfl)) (.inr rfl))), fun h => absurd h (by decide)⟩ (fun hHeld0 => ?_)
              have hHeld := hHeld0.1 rfl
              clear hHeld0 hK K
              refine wpD_done (by kernel_rfl) ?_
              go_wp2_with (fail)
              have h2 : w.heap.size ≤ w.heap.size + 1 + 1 := by omega
              have h3 : w.heap.size ≤ w.heap.size + 1 + 1 + 1 := by omega
              refine bodyPost_ret (v := .tuple #[.agg #[.string a.nm, .int .i64 a.out, .int .i64 a.inn, .slice x1 a.wt.length y1, .slice x2 a.ours.length y2, .slice x3 a.thr.length y3], .agg #[.string b.nm, .int .i64 b.out, .int .i64 b.inn, .slice z1 b.wt.length e1, .slice z2 b.ours.length e2, .slice z3 b.thr.length e3], .int .i64 0, .int .i64 er2])
                (by simp [results, Tryz.results12, go_sem, s0, s1, s2, s3, s4, s5, t0, t1, t2, t3, t4, t5]) rfl ?_
              refine And.intro ?_ ?_
              · refine rv4_mk HR.out ?_ ?_
                · refine HA.out.keep (fun k hk => ?_) (fun k hk => ?_)
                  · refine Nat.lt_of_lt_of_le hk (Below.size (B := w.heap.size) (w := w) ?_)
                    with_reducible exact Below.drew (bl_set6 (bl_set6 HRB.out.bel h2) h3)
                  · refine KeepX.at (w := _) (x := w.heap.size + 1 + 1) (y := w.heap.size + 1 + 1 + 1) ?_ HRB.out.bel hk h2 h3
                    with_reducible exact KeepX.drew (KeepX.set6 (KeepX.set6 (KeepX.refl _ _ _) (.inl rfl)) (.inr rfl))
                · refine HB.out.keep (fun k hk => ?_) (fun k hk => ?_)
                  · refine Nat.lt_of_lt_of_le hk (Below.size (B := w.heap.size) (w := w) ?_)
                    with_reducible exact Below.drew (bl_set6 (bl_set6 HRB.out.bel h2) h3)
                  · refine KeepX.at (w := _) (x := w.heap.size + 1 + 1) (y := w.heap.size + 1 + 1 + 1) ?_ HRB.out.bel hk h2 h3
                    with_reducible exact KeepX.drew (KeepX.set6 (KeepX.set6 (KeepX.refl _ _ _) (.inl rfl)) (.inr rfl))
              · with_reducible exact Below.drew (bl_set6 (bl_set6 HRB.out.bel h2) h3)
            · obtain rfl : er2 = 0 := by omega
              have q3' : ((0 : Int) != 0) = false := by decide
              clear q3
              obtain ⟨c0', c1', c2', c3', c4', c5', cf'⟩ := blk6' HKC.out.py
              obtain ⟨d0', d1', d2', d3', d4', d5', df'⟩ := blk6' HB13.out
              have HY9 := Lib.hid (HKC.out.sety hc8 HP9.out)
              go_wp2_with (fail)
              go_meet
              exact ⟨yp, _, _, _, _, _, _, rfl, HF.out, HY9.out⟩
      case rest =>
        obtain ⟨y', r1, r2, r3, t1, t2, t3, rfl, hfy, hkb⟩ := hcut
        have HZY' := Lib.hid (show SzP (k + 2 * 164) (n + 2 * 164) (m + k) y' from by
          have := HZY.out.fix a.nm (L := L2) (d := 164) hl2
          rw [hfy] at this
          exact this)
        have HR2 := Lib.hid (show reconC a b = rec3 a b ((L1.length : Int) + (L2.length : Int)) (roundC x' y' []) from by
          rw [HRC.out, HFX.out, hfy]; unfold rec2; rw [if_neg (by simp), if_neg (by simp)])
        have HZR2 := Lib.hid (HZX'.out.round HZY'.out [])
        clear HK7 HE2 hfy HZY HRC HFX
        have HK := Lib.hid hkb
        clear hkb
        obtain ⟨c0', c1', c2', c3', c4', c5', cf'⟩ := blk6' HK.out.px
        obtain ⟨d0', d1', d2', d3', d4', d5', df'⟩ := blk6' HK.out.py
        go_wp2_with (fail)
        refine (roundR_gen (MB w.heap.size b8 wc) (k + 2 * 164) (n + 2 * 164) (m + k) x' y' [] _ _ _ _ _ _ (.slice none 0 0) wc HK.out.ox HK.out.oy (fun k hk => hk.1) SlIs.nil HZX'.out HZY'.out (by omega) (by omega)).mono ?_
        rintro e w6 ⟨he, hb6⟩
        obtain ⟨v1, j1, v2, j2, v3, j3, o1, q1, o2, q2, o3, q3, rfl, hq1, hq2⟩ := rv_form he
        obtain ⟨xx, yy, er, hr⟩ : ∃ xx yy er, roundC x' y' [] = (xx, yy, er) := ⟨_, _, _, rfl⟩
        rw [hr] at hq1 hq2 HZR2 ⊢
        dsimp only at hq1 hq2 ⊢
        have HRE := Lib.hid hr
        have hlt := HK.out.lt
        have HK6 := Lib.hid (HK.out.step hb6)
        have HQ1 := Lib.hid (hq1.keep (S' := MB w.heap.size b8 w6) (w' := w6) (fun k hk => MB.sn hlt.1 hlt.2 hb6.size k hk) (SameOn.refl _ _))
        have HQ2 := Lib.hid (hq2.keep (S' := MB w.heap.size b8 w6) (w' := w6) (fun k hk => MB.sn hlt.1 hlt.2 hb6.size k hk) (SameOn.refl _ _))
        clear c0' c1' c2' c3' c4' c5' cf' d0' d1' d2' d3' d4' d5' df' hq1 hq2 he hr hb6 HK hlt
        obtain ⟨c0', c1', c2', c3', c4', c5', cf'⟩ := blk6' HK6.out.px
        obtain ⟨d0', d1', d2', d3', d4', d5', df'⟩ := blk6' HK6.out.py
        have HKX := Lib.hid (HK6.out.setx hc8 HQ1.out)
        have HKZ := Lib.hid (HKX.out.sety (y' := yy) hc8 (HQ2.out.keep (MB.up (by simp)) (fun k hk => set6_ne hk.2.2.1)))
        clear HKX HQ1 HQ2 HK6
        go_upto_region 17 with (fail)
        obtain ⟨wz, hwz⟩ : ∃ wz, ((((((((((((w6.setCell ⟨b8, 0, none⟩ (.string xx.nm)).setCell ⟨b8, 1, none⟩ (.int .i64 xx.out)).setCell ⟨b8, 2, none⟩ (.int .i64 xx.inn)).setCell ⟨b8, 3, none⟩ (.slice v1 xx.wt.length j1)).setCell ⟨b8, 4, none⟩ (.slice v2 xx.ours.length j2)).setCell ⟨b8, 5, none⟩ (.slice v3 xx.thr.length j3)).setCell ⟨b8 + 1, 0, none⟩ (.string yy.nm)).setCell ⟨b8 + 1, 1, none⟩ (.int .i64 yy.out)).setCell ⟨b8 + 1, 2, none⟩ (.int .i64 yy.inn)).setCell ⟨b8 + 1, 3, none⟩ (.slice o1 yy.wt.length q1)).setCell ⟨b8 + 1, 4, none⟩ (.slice o2 yy.ours.length q2)).setCell ⟨b8 + 1, 5, none⟩ (.slice o3 yy.thr.length q3)) = wz := ⟨_, rfl⟩
        rw [hwz] at HKZ ⊢
        clear hwz c0' c1' c2' c3' c4' c5' cf' d0' d1' d2' d3' d4' d5' df'
        by_cases q4 : er ≠ 0
        · have q4' : (er != 0) = true := by simpa using q4
          have HR := Lib.hid (show reconC a b = (a, b, 0, er) from by rw [HR2.out, HRE.out]; unfold rec3; rw [if_pos q4])
          clear q4
          go_upto_region 18 with (fail)
          have HRB := Lib.hid HKZ.out.rb
          have hne1 : w.heap.size ≠ w.heap.size + 1 + 1 ∧ w.heap.size ≠ w.heap.size + 1 + 1 + 1 := by omega
          have hne2 : w.heap.size + 1 ≠ w.heap.size + 1 + 1 ∧ w.heap.size + 1 ≠ w.heap.size + 1 + 1 + 1 := by omega
          have HXA := Lib.hid (box6X HRB.out.pa hne1.1 hne1.2)
          have HXB := Lib.hid (box6X HRB.out.pb hne2.1 hne2.2)
          clear hne1 hne2
          refine wp_region_D (fun j => if j < 7 then 0 else if j < 7 then 1 else 2) (fun w' => KeepX (w.heap.size + 1 + 1) (w.heap.size + 1 + 1 + 1) _ w') (by kernel_rfl) (KeepX.drew (KeepX.refl _ _ _)) (fun hHeld => ?_)
          refine wpD_take (i := 0) (v := ?_) rfl (by kernel_rfl) (fun _ _ _ h => h) (Or.inl ⟨by kernel_rfl, ?_⟩) (by assumption) ?_
          rotate_left
          focus (intro w9 hS9; obtain ⟨z0, z1, z2, z3, z4, z5⟩ := HXA.out w9 hS9; clear hS9; go_simp; (try with_reducible rfl))
          (try simp only [Act.put])
          (try simp only [List.setIfInBounds_toArray])
          (repeat (first | simp only [Z1] | simp only [Z2]))
          refine wpD_take (i := 1) (v := ?_) rfl (by kernel_rfl) (fun _ _ _ h => h) (Or.inl ⟨by kernel_rfl, ?_⟩) (by assumption) ?_
          rotate_left
          focus (intro w9 hS9; obtain ⟨z0, z1, z2, z3, z4, z5⟩ := HXB.out w9 hS9; clear hS9; go_simp; (try with_reducible rfl))
          (try simp only [Act.put])
          (try simp only [List.setIfInBounds_toArray])
          (repeat (first | simp only [Z1] | simp only [Z2]))
          refine wpD_take (i := 2) (v := ?_) rfl (by kernel_rfl) (fun _ _ _ h => h) (Or.inl ⟨by kernel_rfl, ?_⟩) (by assumption) ?_
          rotate_left
          focus (intro w9 hS9; (try dsimp only at hS9); go_simp; (try with_reducible rfl))
          (try simp only [Act.put])
          (try simp only [List.setIfInBounds_toArray])
          (repeat (first | simp only [Z1] | simp only [Z2]))
          obtain ⟨s0, s1, s2, s3, s4, s5, sf⟩ := blk6' HRB.out.ra
          obtain ⟨t0, t1, t2, t3, t4, t5, tf⟩ := blk6' HRB.out.rb
          refine wpD_ready (rs := [3]) (by kernel_rfl) (by kernel_rfl) ?_
          refine AllReadyD.cons rfl (fun K hK => ?_) AllReadyD.nil
          rw [if_pos (show _ = true by kernel_rfl)]
          go_simp
          clear hHeld
          refine hK.out _ _ ⟨fun _ => (by with_reducible exact KeepX.drew (KeepX.set6 (KeepX.refl _ _ _) (.inl rfl))), fun h => absurd h (by decide)⟩ (fun hHeld0 => ?_)
          have hHeld := hHeld0.1 rfl
          clear hHeld0 hK K
          refine wpD_ready (rs := [4]) (by kernel_rfl) (by kernel_rfl) ?_
          refine AllReadyD.cons rfl (fun K hK => ?_) AllReadyD.nil
          rw [if_pos (show _ = true by kernel_rfl)]
          go_simp
          clear hHeld
          refine hK.out _ _ ⟨fun _ => (by with_reducible exact KeepX.drew (KeepX.set6 (KeepX.set6 (KeepX.refl _ _ _) (.inl rfl)) (.inr rfl))), fun h => absurd h (by decide)⟩ (fun hHeld0 => ?_)
          have hHeld := hHeld0.1 rfl
          clear hHeld0 hK K
          refine wpD_ready (rs := [5]) (by kernel_rfl) (by kernel_rfl) ?_
          refine AllReadyD.cons rfl (fun K hK => ?_) AllReadyD.nil
          rw [if_pos (show _ = true by kernel_rfl)]
          go_simp
          clear hHeld
          refine hK.out _ _ ⟨fun _ => (by with_reducible exact KeepX.drew (KeepX.set6 (KeepX.set6 (KeepX.refl _ _ _) (.inl rfl)) (.inr rfl))), fun h => absurd h (by decide)⟩ (fun hHeld0 => ?_)
          have hHeld := hHeld0.1 rfl
          clear hHeld0 hK K
          refine wpD_ready (rs := [6]) (by kernel_rfl) (by kernel_rfl) ?_
          refine AllReadyD.cons rfl (fun K hK => ?_) AllReadyD.nil
          rw [if_pos (show _ = true by kernel_rfl)]
          go_simp
          clear hHeld
          refine hK.out _ _ ⟨fun _ => (by with_reducible exact KeepX.drew (KeepX.set6 (KeepX.set6 (KeepX.refl _ _ _) (.inl rfl)) (.inr rfl))), fun h => absurd h (by decide)⟩ (fun hHeld0 => ?_)
          have hHeld := hHeld0.1 rfl
          clear hHeld0 hK K
          refine wpD_done (by kernel_rfl) ?_
          go_wp2_with (fail)
          have h2 : w.heap.size ≤ w.heap.size + 1 + 1 := by omega
          have h3 : w.heap.size ≤ w.heap.size + 1 + 1 + 1 := by omega
          refine bodyPost_ret (v := .tuple #[.agg #[.string a.nm, .int .i64 a.out, .int .i64 a.inn, .slice x1 a.wt.length y1, .slice x2 a.ours.length y2, .slice x3 a.thr.length y3], .agg #[.string b.nm, .int .i64 b.out, .int .i64 b.inn, .slice z1 b.wt.length e1, .slice z2 b.ours.length e2, .slice z3 b.thr.length e3], .int .i64 0, .int .i64 er])
            (by simp [results, Tryz.results12, go_sem, s0, s1, s2, s3, s4, s5, t0, t1, t2, t3, t4, t5]) rfl ?_
          refine And.intro ?_ ?_
          · refine rv4_mk HR.out ?_ ?_
            · refine HA.out.keep (fun k hk => ?_) (fun k hk => ?_)
              · refine Nat.lt_of_lt_of_le hk (Below.size (B := w.heap.size) (w := w) ?_)
                with_reducible exact Below.drew (bl_set6 (bl_set6 HRB.out.bel h2) h3)
              · refine KeepX.at (w := _) (x := w.heap.size + 1 + 1) (y := w.heap.size + 1 + 1 + 1) ?_ HRB.out.bel hk h2 h3
                with_reducible exact KeepX.drew (KeepX.set6 (KeepX.set6 (KeepX.refl _ _ _) (.inl rfl)) (.inr rfl))
            · refine HB.out.keep (fun k hk => ?_) (fun k hk => ?_)
              · refine Nat.lt_of_lt_of_le hk (Below.size (B := w.heap.size) (w := w) ?_)
                with_reducible exact Below.drew (bl_set6 (bl_set6 HRB.out.bel h2) h3)
              · refine KeepX.at (w := _) (x := w.heap.size + 1 + 1) (y := w.heap.size + 1 + 1 + 1) ?_ HRB.out.bel hk h2 h3
                with_reducible exact KeepX.drew (KeepX.set6 (KeepX.set6 (KeepX.refl _ _ _) (.inl rfl)) (.inr rfl))
          · with_reducible exact Below.drew (bl_set6 (bl_set6 HRB.out.bel h2) h3)
        · obtain rfl : er = 0 := by omega
          clear q4
          have HX2 := Lib.hid (show SzP (k + 2 * 164) (n + 2 * 164) (m + k + (k + 2 * 164)) xx from HZR2.out.1)
          have HY2 := Lib.hid (show SzP (k + 2 * 164) (n + 2 * 164) (m + k + (k + 2 * 164)) yy from HZR2.out.2)
          obtain ⟨s0, s1, s2, s3, s4, s5, sf⟩ := blk6' HKZ.out.px
          obtain ⟨t0, t1, t2, t3, t4, t5, tf⟩ := blk6' HKZ.out.py
          go_wp2_with (fail)
          refine (agreeR_any xx yy _ _ _ _ _ _ wz (HKZ.out.ox.keep (fun k hk => hk.1) (SameOn.refl _ _)) (HKZ.out.oy.keep (fun k hk => hk.1) (SameOn.refl _ _)) (HX2.out.so (by omega)) (HY2.out.st (by omega)) (HY2.out.so (by omega)) (HX2.out.st (by omega))).mono ?_
          rintro e w7 ⟨rfl, hb7⟩
          obtain ⟨ag, hag⟩ : ∃ g, agreeC xx yy = g := ⟨_, rfl⟩
          rw [hag]
          have HAG := Lib.hid hag
          have HK8 := Lib.hid (HKZ.out.step hb7)
          clear hag hb7 HKZ s0 s1 s2 s3 s4 s5 sf t0 t1 t2 t3 t4 t5 tf
          cases ag
          · have HR := Lib.hid (show reconC a b = (a, b, 0, 31) from by rw [HR2.out, HRE.out]; unfold rec3; rw [if_neg (by simp), if_pos HAG.out])
            go_upto_region 20 with (fail)
            have HRB := Lib.hid HK8.out.rb
            have hne1 : w.heap.size ≠ w.heap.size + 1 + 1 ∧ w.heap.size ≠ w.heap.size + 1 + 1 + 1 := by omega
            have hne2 : w.heap.size + 1 ≠ w.heap.size + 1 + 1 ∧ w.heap.size + 1 ≠ w.heap.size + 1 + 1 + 1 := by omega
            have HXA := Lib.hid (box6X HRB.out.pa hne1.1 hne1.2)
            have HXB := Lib.hid (box6X HRB.out.pb hne2.1 hne2.2)
            clear hne1 hne2
            refine wp_region_D (fun j => if j < 6 then 0 else if j < 6 then 1 else 2) (fun w' => KeepX (w.heap.size + 1 + 1) (w.heap.size + 1 + 1 + 1) _ w') (by kernel_rfl) (KeepX.drew (KeepX.refl _ _ _)) (fun hHeld => ?_)
            refine wpD_take (i := 0) (v := ?_) rfl (by kernel_rfl) (fun _ _ _ h => h) (Or.inl ⟨by kernel_rfl, ?_⟩) (by assumption) ?_
            rotate_left
            focus (intro w9 hS9; obtain ⟨z0, z1, z2, z3, z4, z5⟩ := HXA.out w9 hS9; clear hS9; go_simp; (try with_reducible rfl))
            (try simp only [Act.put])
            (try simp only [List.setIfInBounds_toArray])
            (repeat (first | simp only [Z1] | simp only [Z2]))
            refine wpD_take (i := 1) (v := ?_) rfl (by kernel_rfl) (fun _ _ _ h => h) (Or.inl ⟨by kernel_rfl, ?_⟩) (by assumption) ?_
            rotate_left
            focus (intro w9 hS9; obtain ⟨z0, z1, z2, z3, z4, z5⟩ := HXB.out w9 hS9; clear hS9; go_simp; (try with_reducible rfl))
            (try simp only [Act.put])
            (try simp only [List.setIfInBounds_toArray])
            (repeat (first | simp only [Z1] | simp only [Z2]))
            obtain ⟨s0, s1, s2, s3, s4, s5, sf⟩ := blk6' HRB.out.ra
            obtain ⟨t0, t1, t2, t3, t4, t5, tf⟩ := blk6' HRB.out.rb
            refine wpD_ready (rs := [2]) (by kernel_rfl) (by kernel_rfl) ?_
            refine AllReadyD.cons rfl (fun K hK => ?_) AllReadyD.nil
            rw [if_pos (show _ = true by kernel_rfl)]
            go_simp
            clear hHeld
            refine hK.out _ _ ⟨fun _ => (by with_reducible exact KeepX.drew (KeepX.set6 (KeepX.refl _ _ _) (.inl rfl))), fun h => absurd h (by decide)⟩ (fun hHeld0 => ?_)
            have hHeld := hHeld0.1 rfl
            clear hHeld0 hK K
            refine wpD_ready (rs := [3]) (by kernel_rfl) (by kernel_rfl) ?_
            refine AllReadyD.cons rfl (fun K hK => ?_) AllReadyD.nil
            rw [if_pos (show _ = true by kernel_rfl)]
            go_simp
            clear hHeld
            refine hK.out _ _ ⟨fun _ => (by with_reducible exact KeepX.drew (KeepX.set6 (KeepX.set6 (KeepX.refl _ _ _) (.inl rfl)) (.inr rfl))), fun h => absurd h (by decide)⟩ (fun hHeld0 => ?_)
            have hHeld := hHeld0.1 rfl
            clear hHeld0 hK K
            refine wpD_ready (rs := [4]) (by kernel_rfl) (by kernel_rfl) ?_
            refine AllReadyD.cons rfl (fun K hK => ?_) AllReadyD.nil
            rw [if_pos (show _ = true by kernel_rfl)]
            go_simp
            clear hHeld
            refine hK.out _ _ ⟨fun _ => (by with_reducible exact KeepX.drew (KeepX.set6 (KeepX.set6 (KeepX.refl _ _ _) (.inl rfl)) (.inr rfl))), fun h => absurd h (by decide)⟩ (fun hHeld0 => ?_)
            have hHeld := hHeld0.1 rfl
            clear hHeld0 hK K
            refine wpD_ready (rs := [5]) (by kernel_rfl) (by kernel_rfl) ?_
            refine AllReadyD.cons rfl (fun K hK => ?_) AllReadyD.nil
            rw [if_pos (show _ = true by kernel_rfl)]
            go_simp
            clear hHeld
            refine hK.out _ _ ⟨fun _ => (by with_reducible exact KeepX.drew (KeepX.set6 (KeepX.set6 (KeepX.refl _ _ _) (.inl rfl)) (.inr rfl))), fun h => absurd h (by decide)⟩ (fun hHeld0 => ?_)
            have hHeld := hHeld0.1 rfl
            clear hHeld0 hK K
            refine wpD_done (by kernel_rfl) ?_
            go_wp2_with (fail)
            have h2 : w.heap.size ≤ w.heap.size + 1 + 1 := by omega
            have h3 : w.heap.size ≤ w.heap.size + 1 + 1 + 1 := by omega
            refine bodyPost_ret (v := .tuple #[.agg #[.string a.nm, .int .i64 a.out, .int .i64 a.inn, .slice x1 a.wt.length y1, .slice x2 a.ours.length y2, .slice x3 a.thr.length y3], .agg #[.string b.nm, .int .i64 b.out, .int .i64 b.inn, .slice z1 b.wt.length e1, .slice z2 b.ours.length e2, .slice z3 b.thr.length e3], .int .i64 0, .int .i64 31])
              (by simp [results, Tryz.results12, go_sem, s0, s1, s2, s3, s4, s5, t0, t1, t2, t3, t4, t5]) rfl ?_
            refine And.intro ?_ ?_
            · refine rv4_mk HR.out ?_ ?_
              · refine HA.out.keep (fun k hk => ?_) (fun k hk => ?_)
                · refine Nat.lt_of_lt_of_le hk (Below.size (B := w.heap.size) (w := w) ?_)
                  with_reducible exact Below.drew (bl_set6 (bl_set6 HRB.out.bel h2) h3)
                · refine KeepX.at (w := _) (x := w.heap.size + 1 + 1) (y := w.heap.size + 1 + 1 + 1) ?_ HRB.out.bel hk h2 h3
                  with_reducible exact KeepX.drew (KeepX.set6 (KeepX.set6 (KeepX.refl _ _ _) (.inl rfl)) (.inr rfl))
              · refine HB.out.keep (fun k hk => ?_) (fun k hk => ?_)
                · refine Nat.lt_of_lt_of_le hk (Below.size (B := w.heap.size) (w := w) ?_)
                  with_reducible exact Below.drew (bl_set6 (bl_set6 HRB.out.bel h2) h3)
                · refine KeepX.at (w := _) (x := w.heap.size + 1 + 1) (y := w.heap.size + 1 + 1 + 1) ?_ HRB.out.bel hk h2 h3
                  with_reducible exact KeepX.drew (KeepX.set6 (KeepX.set6 (KeepX.refl _ _ _) (.inl rfl)) (.inr rfl))
            · with_reducible exact Below.drew (bl_set6 (bl_set6 HRB.out.bel h2) h3)
          · have HR := Lib.hid (show reconC a b = (xx, yy, (L1.length : Int) + (L2.length : Int), 0) from by rw [HR2.out, HRE.out]; unfold rec3; rw [if_neg (by simp), if_neg (by simp [HAG.out])])
            have hw0 : IntKind.i64.wrap ((L1.length : Int) + (L2.length : Int)) = (L1.length : Int) + (L2.length : Int) := wrap_in (by omega) (by omega)
            have hn1 : b8 ≠ w.heap.size + 1 + 1 ∧ b8 ≠ w.heap.size + 1 + 1 + 1 := by omega
            have hn2 : b8 + 1 ≠ w.heap.size + 1 + 1 ∧ b8 + 1 ≠ w.heap.size + 1 + 1 + 1 := by omega
            have HX8 := Lib.hid (box6X HK8.out.px hn1.1 hn1.2)
            have HX9 := Lib.hid (box6X HK8.out.py hn2.1 hn2.2)
            clear hn1 hn2 HR2 HRE HAG
            go_upto_region 21 with (fail)
            refine wp_region_D (fun j => if j < 11 then 0 else if j < 11 then 1 else 2) (fun w' => KeepX (w.heap.size + 1 + 1) (w.heap.size + 1 + 1 + 1) w7 w') (by kernel_rfl) (KeepX.drew (KeepX.refl _ _ _)) (fun hHeld => ?_)
            refine wpD_take (i := 0) (v := ?_) rfl (by kernel_rfl) (fun _ _ _ h => h) (Or.inl ⟨by kernel_rfl, ?_⟩) (by assumption) ?_
            rotate_left
            focus (intro w9 hS9; obtain ⟨z0, z1, z2, z3, z4, z5⟩ := HX8.out w9 hS9; clear hS9; go_simp; (try with_reducible rfl))
            (try simp only [Act.put])
            (try simp only [List.setIfInBounds_toArray])
            (repeat (first | simp only [Z1] | simp only [Z2]))
            refine wpD_take (i := 1) (v := ?_) rfl (by kernel_rfl) (fun _ _ _ h => h) (Or.inl ⟨by kernel_rfl, ?_⟩) (by assumption) ?_
            rotate_left
            focus (intro w9 hS9; obtain ⟨z0, z1, z2, z3, z4, z5⟩ := HX9.out w9 hS9; clear hS9; go_simp; (try with_reducible rfl))
            (try simp only [Act.put])
            (try simp only [List.setIfInBounds_toArray])
            (repeat (first | simp only [Z1] | simp only [Z2]))
            refine wpD_take (i := 2) (v := ?_) rfl (by kernel_rfl) (fun _ _ _ h => h) (Or.inl ⟨by kernel_rfl, ?_⟩) (by assumption) ?_
            rotate_left
            focus (intro w9 hS9; (try dsimp only at hS9); go_simp; (try with_reducible rfl))
            (try simp only [Act.put])
            (try simp only [List.setIfInBounds_toArray])
            (repeat (first | simp only [Z1] | simp only [Z2]))
            refine wpD_take (i := 3) (v := ?_) rfl (by kernel_rfl) (fun _ _ _ h => h) (Or.inl ⟨by kernel_rfl, ?_⟩) (by assumption) ?_
            rotate_left
            focus (intro w9 hS9; (try dsimp only at hS9); go_simp; (try with_reducible rfl))
            (try simp only [Act.put])
            (try simp only [List.setIfInBounds_toArray])
            (repeat (first | simp only [Z1] | simp only [Z2]))
            refine wpD_take (i := 4) (v := ?_) rfl (by kernel_rfl) (fun _ _ _ h => h) (Or.inl ⟨by kernel_rfl, ?_⟩) (by assumption) ?_
            rotate_left
            focus (intro w9 hS9; (try dsimp only at hS9); go_simp; (try with_reducible rfl))
            (try simp only [Act.put])
            (try simp only [List.setIfInBounds_toArray])
            (repeat (first | simp only [Z1] | simp only [Z2]))
            refine wpD_take (i := 5) (v := ?_) rfl (by kernel_rfl) (fun _ _ _ h => h) (Or.inl ⟨by kernel_rfl, ?_⟩) (by assumption) ?_
            rotate_left
            focus (intro w9 hS9; (try dsimp only at hS9); go_simp; (try with_reducible rfl))
            (try simp only [Act.put])
            (try simp only [List.setIfInBounds_toArray])
            (repeat (first | simp only [Z1] | simp only [Z2]))
            refine wpD_take (i := 6) (v := ?_) rfl (by kernel_rfl) (fun _ _ _ h => h) (Or.inl ⟨by kernel_rfl, ?_⟩) (by assumption) ?_
            rotate_left
            focus (intro w9 hS9; (try dsimp only at hS9); go_simp; (try with_reducible rfl))
            (try simp only [Act.put])
            (try simp only [List.setIfInBounds_toArray])
            (repeat (first | simp only [Z1] | simp only [Z2]))
            obtain ⟨s0, s1, s2, s3, s4, s5, sf⟩ := blk6' HK8.out.rb.ra
            obtain ⟨t0, t1, t2, t3, t4, t5, tf⟩ := blk6' HK8.out.rb.rb
            refine wpD_ready (rs := [7]) (by kernel_rfl) (by kernel_rfl) ?_
            refine AllReadyD.cons rfl (fun K hK => ?_) AllReadyD.nil
            rw [if_pos (show _ = true by kernel_rfl)]
            go_simp
            clear hHeld
            refine hK.out _ _ ⟨fun _ => (by with_reducible exact KeepX.drew (KeepX.set6 (KeepX.refl _ _ _) (.inl rfl))), fun h => absurd h (by decide)⟩ (fun hHeld0 => ?_)
            have hHeld := hHeld0.1 rfl
            clear hHeld0 hK K
            refine wpD_ready (rs := [8]) (by kernel_rfl) (by kernel_rfl) ?_
            refine AllReadyD.cons rfl (fun K hK => ?_) AllReadyD.nil
            rw [if_pos (show _ = true by kernel_rfl)]
            go_simp
            clear hHeld
            refine hK.out _ _ ⟨fun _ => (by with_reducible exact KeepX.drew (KeepX.set6 (KeepX.set6 (KeepX.refl _ _ _) (.inl rfl)) (.inr rfl))), fun h => absurd h (by decide)⟩ (fun hHeld0 => ?_)
            have hHeld := hHeld0.1 rfl
            clear hHeld0 hK K
            refine wpD_ready (rs := [9]) (by kernel_rfl) (by kernel_rfl) ?_
            refine AllReadyD.cons rfl (fun K hK => ?_) AllReadyD.nil
            rw [if_pos (show _ = true by kernel_rfl)]
            go_simp
            clear hHeld
            refine hK.out _ _ ⟨fun _ => (by with_reducible exact KeepX.drew (KeepX.set6 (KeepX.set6 (KeepX.refl _ _ _) (.inl rfl)) (.inr rfl))), fun h => absurd h (by decide)⟩ (fun hHeld0 => ?_)
            have hHeld := hHeld0.1 rfl
            clear hHeld0 hK K
            refine wpD_ready (rs := [10]) (by kernel_rfl) (by kernel_rfl) ?_
            refine AllReadyD.cons rfl (fun K hK => ?_) AllReadyD.nil
            rw [if_pos (show _ = true by kernel_rfl)]
            go_simp
            clear hHeld
            refine hK.out _ _ ⟨fun _ => (by with_reducible exact KeepX.drew (KeepX.set6 (KeepX.set6 (KeepX.refl _ _ _) (.inl rfl)) (.inr rfl))), fun h => absurd h (by decide)⟩ (fun hHeld0 => ?_)
            have hHeld := hHeld0.1 rfl
            clear hHeld0 hK K
            refine wpD_done (by kernel_rfl) ?_
            go_wp2_with (fail)
            have h2 : w.heap.size ≤ w.heap.size + 1 + 1 := by omega
            have h3 : w.heap.size ≤ w.heap.size + 1 + 1 + 1 := by omega
            refine bodyPost_ret (v := .tuple #[.agg #[.string xx.nm, .int .i64 xx.out, .int .i64 xx.inn, .slice v1 xx.wt.length j1, .slice v2 xx.ours.length j2, .slice v3 xx.thr.length j3], .agg #[.string yy.nm, .int .i64 yy.out, .int .i64 yy.inn, .slice o1 yy.wt.length q1, .slice o2 yy.ours.length q2, .slice o3 yy.thr.length q3], .int .i64 ((L1.length : Int) + (L2.length : Int)), .int .i64 0])
              (by simp [results, Tryz.results12, go_sem, s0, s1, s2, s3, s4, s5, t0, t1, t2, t3, t4, t5]) rfl ?_
            refine And.intro ?_ ?_
            · refine rv4_mk HR.out ?_ ?_
              · refine HK8.out.ox.keep (fun k hk => ?_) (fun k hk => ?_)
                · have := hk.1; simp; omega
                · refine KeepX.out (w := w7) (x := w.heap.size + 1 + 1) (y := w.heap.size + 1 + 1 + 1) ?_ k (by have := hk.2.1; omega) (by have := hk.2.1; omega)
                  with_reducible exact KeepX.drew (KeepX.set6 (KeepX.set6 (KeepX.refl _ _ _) (.inl rfl)) (.inr rfl))
              · refine HK8.out.oy.keep (fun k hk => ?_) (fun k hk => ?_)
                · have := hk.1; simp; omega
                · refine KeepX.out (w := w7) (x := w.heap.size + 1 + 1) (y := w.heap.size + 1 + 1 + 1) ?_ k (by have := hk.2.1; omega) (by have := hk.2.1; omega)
                  with_reducible exact KeepX.drew (KeepX.set6 (KeepX.set6 (KeepX.refl _ _ _) (.inl rfl)) (.inr rfl))
            · with_reducible exact Below.drew (bl_set6 (bl_set6 HK8.out.rb.bel h2) h3)
end Go.Proofs.YtmjbbpappigngaaGreat
