/-
  Layer 44 (recon): the walks of the reference's Resend and Round.
-/
import Derived.Test.YtmjbbpappigngaaGreatMgL
import Derived.Test.YtmjbbpappigngaaGreatMgK
import Derived.Test.YtmjbbpappigngaaGreatExcAckR
import Derived.Test.YtmjbbpappigngaaGreatHeldD
namespace Go.Proofs.YtmjbbpappigngaaGreat
open Go.RowKit Go.Tw Go.Tw.Exc
set_option maxHeartbeats 1000000 in
theorem resendR_any (p : Par) (vw vo vt : Value) (w : World) (h : ParOk (· < w.heap.size) w p vw vo vt) (hs : SmallP p) :
    Calls Tryz.prog 29 #[.agg #[.string p.nm, .int .i64 p.out, .int .i64 p.inn, vw, vo, vt]] w fun e w' => (∃ v', e = .returned v' ∧ SlIs tFil (· < w'.heap.size) w' v' p.wt) ∧ Below w.heap.size w w' := by
  have HP := Lib.hid h
  have HS := Lib.hid hs
  obtain ⟨aw, cw, bw, ow, rfl, -⟩ := id h.wt
  obtain ⟨ao, co, bo, oo, rfl, -⟩ := id h.ours
  obtain ⟨at', ct, bt, ot, rfl, -⟩ := id h.thr
  clear h hs
  go_enter Tryz.func29, Tryz.ntmps29
  go_wp2_with (fail)
  refine (filesR_any p.wt _ _ (HP.out.wt.step (bl_alloc (Below.refl _ _) _)) (Nat.le_trans HS.out.wt (by decide)) (fun f hf => Nat.le_trans (HS.out.rs f hf) (by decide))).mono ?_
  rintro e w1 ⟨vw', rfl, hn1, hb1⟩
  have HN := Lib.hid hn1.sl'
  have HB := Lib.hid (bl_trans (bl_alloc (Below.refl w.heap.size w) _) hb1)
  clear hn1 hb1
  go_wp2_with (fail)
  go_ret
  exact ⟨⟨_, rfl, HN.out⟩, HB.out⟩
theorem deliverR0 (S : Nat → Prop) (p : Par) (fs : List Fil) (bs : List Bool) (vw vo vt vf vl : Value) (w : World) (hsp : ParOk S w p vw vo vt) (hss : ∀ k, S k → k < w.heap.size) (hs : SmallP p) (hf : SlIs tFil (· < w.heap.size) w vf fs) (hl : SlIs tBool (· < w.heap.size) w vl bs) (hfn : fs.length ≤ 1000000) :
    Calls Tryz.prog 30 #[.agg #[.string p.nm, .int .i64 p.out, .int .i64 p.inn, vw, vo, vt], vf, vl, .int .i64 0] w fun e w' => PEs S w w' e (delivC p fs bs) ∧ Below w.heap.size w w' :=
  deliverR_gen S p fs bs 0 vw vo vt vf vl w hsp hss hs hf hl (by omega) hfn
/-- the blocks of S, and those from n on, but b and c -/
def NB (S : Nat → Prop) (n b c : Nat) (wx : World) : Nat → Prop := fun k => k < wx.heap.size ∧ (S k ∨ n ≤ k) ∧ k ≠ b ∧ k ≠ c
theorem NB.up {S : Nat → Prop} {n b c : Nat} {W w : World} (h : W.heap.size ≤ w.heap.size) : ∀ k, NB S n b c W k → NB S n b c w k := fun _ hk => ⟨Nat.lt_of_lt_of_le hk.1 h, hk.2⟩
theorem NB.sn {S : Nat → Prop} {n b c : Nat} {W w : World} (hb : b < W.heap.size) (hc : c < W.heap.size) (hn : n ≤ W.heap.size) (h : W.heap.size ≤ w.heap.size) : ∀ k, (NB S n b c W k ∨ (W.heap.size ≤ k ∧ k < w.heap.size)) → NB S n b c w k := fun k hk => by
  rcases hk with hk | hk
  · exact NB.up h k hk
  · exact ⟨hk.2, .inr (by omega), by omega, by omega⟩
/-- the boxes of Round: those of RB, and two partners -/
structure QB (S : Nat → Prop) (w : World) (a b x y : Par) (a1 a2 a3 b1 b2 b3 u1 u2 u3 v1 v2 v3 : Value) (c d : Nat) (wx : World) : Prop where
  rb : RB w a b a1 a2 a3 b1 b2 b3 wx
  px : wx.heap[c]? = some (.cells #[.string x.nm, .int .i64 x.out, .int .i64 x.inn, u1, u2, u3] 29 (0, 0))
  py : wx.heap[d]? = some (.cells #[.string y.nm, .int .i64 y.out, .int .i64 y.inn, v1, v2, v3] 29 (0, 0))
  ox : ParOk (NB S (w.heap.size + 4) c d wx) wx x u1 u2 u3
  oy : ParOk (NB S (w.heap.size + 4) c d wx) wx y v1 v2 v3
theorem QB.step {S : Nat → Prop} {w : World} {a b x y : Par} {a1 a2 a3 b1 b2 b3 u1 u2 u3 v1 v2 v3 : Value} {c d : Nat} {wx wy : World} (h : QB S w a b x y a1 a2 a3 b1 b2 b3 u1 u2 u3 v1 v2 v3 c d wx) (hb : Below wx.heap.size wx wy) : QB S w a b x y a1 a2 a3 b1 b2 b3 u1 u2 u3 v1 v2 v3 c d wy :=
  ⟨h.rb.step hb, Go.Tw.Below.at_old hb h.px, Go.Tw.Below.at_old hb h.py, h.ox.keep (NB.up hb.size) (fun k hk => hb.block k hk.1), h.oy.keep (NB.up hb.size) (fun k hk => hb.block k hk.1)⟩
theorem QB.lt {S : Nat → Prop} {w : World} {a b x y : Par} {a1 a2 a3 b1 b2 b3 u1 u2 u3 v1 v2 v3 : Value} {c d : Nat} {wx : World} (h : QB S w a b x y a1 a2 a3 b1 b2 b3 u1 u2 u3 v1 v2 v3 c d wx) : c < wx.heap.size ∧ d < wx.heap.size ∧ w.heap.size + 4 ≤ wx.heap.size := ⟨lt_of_heap h.px, lt_of_heap h.py, by have := lt_of_heap h.rb.rb; omega⟩
theorem RB.set' {w : World} {a b : Par} {a1 a2 a3 b1 b2 b3 : Value} {wx wy : World} {c : Nat} (h : RB w a b a1 a2 a3 b1 b2 b3 wx) (hk : ∀ k, k ≠ c → wy.heap[k]? = wx.heap[k]?) (hc : w.heap.size + 4 ≤ c) (hb : Below w.heap.size w wy) : RB w a b a1 a2 a3 b1 b2 b3 wy :=
  ⟨hb, (hk _ (by omega)).trans h.pa, (hk _ (by omega)).trans h.pb, (hk _ (by omega)).trans h.ra, (hk _ (by omega)).trans h.rb⟩
theorem QB.setx {S : Nat → Prop} {w : World} {a b x y x' : Par} {a1 a2 a3 b1 b2 b3 u1 u2 u3 v1 v2 v3 z1 z2 z3 : Value} {c d : Nat} {wx : World} (h : QB S w a b x y a1 a2 a3 b1 b2 b3 u1 u2 u3 v1 v2 v3 c d wx) (hc : w.heap.size + 4 ≤ c) (hcd : c ≠ d) (hx : ParOk (NB S (w.heap.size + 4) c d wx) wx x' z1 z2 z3) :
    QB S w a b x' y a1 a2 a3 b1 b2 b3 z1 z2 z3 v1 v2 v3 c d ((((((wx.setCell ⟨c, 0, none⟩ (.string x'.nm)).setCell ⟨c, 1, none⟩ (.int .i64 x'.out)).setCell ⟨c, 2, none⟩ (.int .i64 x'.inn)).setCell ⟨c, 3, none⟩ z1).setCell ⟨c, 4, none⟩ z2).setCell ⟨c, 5, none⟩ z3) := by
  have hl : w.heap.size ≤ c := by omega
  exact ⟨h.rb.set' (fun k hk => set6_ne hk) hc (bl_set6 h.rb.bel hl), set6_same h.px, (set6_ne hcd.symm).trans h.py, hx.keep (NB.up (by simp)) (fun k hk => set6_ne hk.2.2.1), h.oy.keep (NB.up (by simp)) (fun k hk => set6_ne hk.2.2.1)⟩
theorem QB.sety {S : Nat → Prop} {w : World} {a b x y y' : Par} {a1 a2 a3 b1 b2 b3 u1 u2 u3 v1 v2 v3 z1 z2 z3 : Value} {c d : Nat} {wx : World} (h : QB S w a b x y a1 a2 a3 b1 b2 b3 u1 u2 u3 v1 v2 v3 c d wx) (hd : w.heap.size + 4 ≤ d) (hcd : c ≠ d) (hy : ParOk (NB S (w.heap.size + 4) c d wx) wx y' z1 z2 z3) :
    QB S w a b x y' a1 a2 a3 b1 b2 b3 u1 u2 u3 z1 z2 z3 c d ((((((wx.setCell ⟨d, 0, none⟩ (.string y'.nm)).setCell ⟨d, 1, none⟩ (.int .i64 y'.out)).setCell ⟨d, 2, none⟩ (.int .i64 y'.inn)).setCell ⟨d, 3, none⟩ z1).setCell ⟨d, 4, none⟩ z2).setCell ⟨d, 5, none⟩ z3) := by
  have hl : w.heap.size ≤ d := by omega
  exact ⟨h.rb.set' (fun k hk => set6_ne hk) hd (bl_set6 h.rb.bel hl), (set6_ne hcd).trans h.px, set6_same h.py, h.ox.keep (NB.up (by simp)) (fun k hk => set6_ne hk.2.2.2), hy.keep (NB.up (by simp)) (fun k hk => set6_ne hk.2.2.2)⟩
/- the two partners that came in go back, with an error: $1 the boxes, $2 the error, $3 the equation -/
set_option maxRecDepth 100000 in
set_option maxHeartbeats 8000000 in
theorem roundR_gen (S : Nat → Prop) (k n m : Nat) (a b : Par) (bs : List Bool) (a1 a2 a3 b1 b2 b3 vl : Value) (w : World) (hpa : ParOk S w a a1 a2 a3) (hpb : ParOk S w b b1 b2 b3) (hss : ∀ k, S k → k < w.heap.size) (hl : SlIs tBool (· < w.heap.size) w vl bs) (hsa : SzP k n m a) (hsb : SzP k n m b) (hn : n ≤ 1000) (hkm : m + k ≤ 1000) :
    Calls Tryz.prog 10 #[.agg #[.string a.nm, .int .i64 a.out, .int .i64 a.inn, a1, a2, a3], .agg #[.string b.nm, .int .i64 b.out, .int .i64 b.inn, b1, b2, b3], vl] w
      fun e w' => RV (SN S w.heap.size w'.heap.size) w' e (roundC a b bs) ∧ Below w.heap.size w w' := by
  have ha : ParOk (· < w.heap.size) w a a1 a2 a3 := hpa.keep hss (SameOn.refl _ _)
  have hb : ParOk (· < w.heap.size) w b b1 b2 b3 := hpb.keep hss (SameOn.refl _ _)
  have HSS := Lib.hid hss
  have HPA := Lib.hid hpa
  have HPB := Lib.hid hpb
  have HA := Lib.hid ha
  have HB := Lib.hid hb
  have HL := Lib.hid hl
  have HSA := Lib.hid (hsa.small (by omega) (by omega) (by omega))
  have HSB := Lib.hid (hsb.small (by omega) (by omega) (by omega))
  have HZX := Lib.hid (show SzP k n (m + k) (delivC a b.wt (bs.drop a.wt.length)).1 from hsa.deliv hsb.rw hsb.wt _)
  have HZY := Lib.hid (show SzP k n (m + k) (delivC b a.wt bs).1 from hsb.deliv hsa.rw hsa.wt _)
  obtain ⟨x1, y1, _, _, rfl, -⟩ := id ha.wt
  obtain ⟨x2, y2, _, _, rfl, -⟩ := id ha.ours
  obtain ⟨x3, y3, _, _, rfl, -⟩ := id ha.thr
  obtain ⟨z1, e1, _, _, rfl, -⟩ := id hb.wt
  obtain ⟨z2, e2, _, _, rfl, -⟩ := id hb.ours
  obtain ⟨z3, e3, _, _, rfl, -⟩ := id hb.thr
  obtain ⟨al, cl, bl, ol, rfl, hl1, hl2, -⟩ := id hl
  unfold maxLen at hl2
  have hwa := hsa.wt
  have hwb := hsb.wt
  clear ha hb hl hsa hsb hpa hpb hss
  go_enter Tryz.func10, Tryz.ntmps10
  have HRB0 := Lib.hid (show RB w a b (.slice x1 a.wt.length y1) (.slice x2 a.ours.length y2) (.slice x3 a.thr.length y3) (.slice z1 b.wt.length e1) (.slice z2 b.ours.length e2) (.slice z3 b.thr.length e3) ((((w.alloc (.cells #[.string a.nm, .int .i64 a.out, .int .i64 a.inn, .slice x1 a.wt.length y1, .slice x2 a.ours.length y2, .slice x3 a.thr.length y3] 29)).alloc (.cells #[.string b.nm, .int .i64 b.out, .int .i64 b.inn, .slice z1 b.wt.length e1, .slice z2 b.ours.length e2, .slice z3 b.thr.length e3] 29)).alloc (.cells #[.string ⟨#[]⟩, .int .i64 0, .int .i64 0, .slice none 0 0, .slice none 0 0, .slice none 0 0] 29)).alloc (.cells #[.string ⟨#[]⟩, .int .i64 0, .int .i64 0, .slice none 0 0, .slice none 0 0, .slice none 0 0] 29)) from
    ⟨bl_alloc (bl_alloc (bl_alloc (bl_alloc (Below.refl _ _) _) _) _) _, alloc4_0 w _ _ _ _, alloc4_1 w _ _ _ _, alloc4_2 w _ _ _ _, alloc4_3 w _ _ _ _⟩)
  go_wp2_with (fail)
  refine (resendR_any a _ _ _ _ (HA.out.step HRB0.out.bel) HSA.out).mono ?_
  rintro e w5 ⟨⟨vr, rfl, hr⟩, hb5⟩
  obtain ⟨af, cf, _, _, rfl, -⟩ := id hr
  have HF1 := Lib.hid hr
  have HX5 := Lib.hid (HRB0.out.step hb5)
  clear hr hb5 HRB0
  obtain ⟨c0, c1, c2, c3, c4, c5, cf'⟩ := blk6' HX5.out.pb
  go_wp2_with (fail)
  refine (resendR_any b _ _ _ _ (HB.out.step HX5.out.bel) HSB.out).mono ?_
  rintro e w6 ⟨⟨vr, rfl, hr⟩, hb6⟩
  obtain ⟨bf, df, _, _, rfl, -⟩ := id hr
  have HF2 := Lib.hid hr
  have HX6 := Lib.hid (HX5.out.step hb6)
  have HF16 := Lib.hid (HF1.out.step hb6)
  clear hr hb6 HX5 HF1 c0 c1 c2 c3 c4 c5 cf'
  obtain ⟨c0, c1, c2, c3, c4, c5, cf'⟩ := blk6' HX6.out.pb
  go_wp2_with (fail)
  refine (deliverR0 S b a.wt bs _ _ _ _ _ w6 (HPB.out.keep (fun _ h => h) (fun k hk => HX6.out.bel.block k (HSS.out k hk))) (fun k hk => Nat.lt_of_lt_of_le (HSS.out k hk) HX6.out.bel.size) HSB.out HF16.out (HL.out.step HX6.out.bel) (by omega)).mono ?_
  rintro e w7 ⟨he, hb7⟩
  obtain ⟨v1, k1, v2, k2, v3, k3, rfl, hq7⟩ := he.form
  obtain ⟨y, er, hye⟩ : ∃ y er, delivC b a.wt bs = (y, er) := ⟨_, _, rfl⟩
  rw [hye] at hq7 HZY ⊢
  dsimp only at hq7 ⊢
  have h46 : w.heap.size + 4 ≤ w6.heap.size := by have := lt_of_heap HX6.out.rb; omega
  have HYE := Lib.hid hye
  have HX7 := Lib.hid (HX6.out.step hb7)
  have HF27 := Lib.hid (HF2.out.step hb7)
  have HY7 := Lib.hid (pes_sn hq7 h46)
  have hs67 := hb7.size
  clear c0 c1 c2 c3 c4 c5 cf' HX6 HF2 HF16 hb7 hq7 hye he
  obtain ⟨wd, hwd⟩ : ∃ wd, w7.alloc (.cells #[.string y.nm, .int .i64 y.out, .int .i64 y.inn, .slice v1 y.wt.length k1, .slice v2 y.ours.length k2, .slice v3 y.thr.length k3] 29) = wd := ⟨_, rfl⟩
  have hy0 := alloc1_0 w7 (.cells #[.string y.nm, .int .i64 y.out, .int .i64 y.inn, .slice v1 y.wt.length k1, .slice v2 y.ours.length k2, .slice v3 y.thr.length k3] 29)
  rw [hwd] at hy0
  have HY0 := Lib.hid hy0
  have hbc : Below w7.heap.size w7 wd := by rw [← hwd]; exact bl_alloc (Below.refl _ _) _
  have HX8 := Lib.hid (HX7.out.step hbc)
  have HF28 := Lib.hid (HF27.out.step hbc)
  obtain ⟨b11, hb11⟩ : ∃ k, w7.heap.size = k := ⟨_, rfl⟩
  have hd11 : wd.heap.size = b11 + 1 := by rw [← hwd, ← hb11]; simp
  have HS8 := Lib.hid (show ∀ k, S k → k < w.heap.size from HSS.out)
  have HY8 := Lib.hid (show ParOk (fun k => (S k ∨ w.heap.size + 4 ≤ k) ∧ k < b11) wd y (.slice v1 y.wt.length k1) (.slice v2 y.ours.length k2) (.slice v3 y.thr.length k3) from HY7.out.keep (fun k hk => by
    rcases hk with hk | hk
    · have := HSS.out k hk; exact ⟨.inl hk, by omega⟩
    · exact ⟨.inr hk.1, by have := hk.2; omega⟩) (fun k hk => hbc.block k (by
    rcases hk with hk | hk
    · have := HSS.out k hk; omega
    · exact hk.2)))
  have h411 : w.heap.size + 4 ≤ b11 := by omega
  clear hy0 hbc HX7 HY7 HF27 h46 hs67
  by_cases q1 : er ≠ 0
  · have q1' : (er != 0) = true := by simpa using q1
    have HR := Lib.hid (show roundC a b bs = (a, b, er) from by unfold roundC; rw [if_pos (by rw [HYE.out]; exact q1), HYE.out])
    clear q1
    go_upto_region 5 with (fail)
    (try rw [hwd])
    rw [hb11] at HY0
    (try rw [hb11])
    clear hwd hb11 hd11
    have hne1 : w.heap.size ≠ w.heap.size + 1 + 1 ∧ w.heap.size ≠ w.heap.size + 1 + 1 + 1 := by omega
    have hne2 : w.heap.size + 1 ≠ w.heap.size + 1 + 1 ∧ w.heap.size + 1 ≠ w.heap.size + 1 + 1 + 1 := by omega
    have HXA := Lib.hid (box6X HX8.out.pa hne1.1 hne1.2)
    have HXB := Lib.hid (box6X HX8.out.pb hne2.1 hne2.2)
    clear hne1 hne2
    refine wp_region_D (fun j => if j < 6 then 0 else if j < 6 then 1 else 2) (fun w' => KeepX (w.heap.size + 1 + 1) (w.heap.size + 1 + 1 + 1) _ w') (by kernel_rfl) (KeepX.drew (KeepX.refl _ _ _)) (fun hHeld => ?_)
    refine wpD_take (i := 0) (v := ?_) rfl (by kernel_rfl) (fun _ _ _ h => h) (Or.inl ⟨by kernel_rfl, ?_⟩) (by assumption) ?_
    rotate_left
    focus (intro w9 hS9; obtain ⟨z0, z1, z2, z3, z4, z5⟩ := HXA.out w9 hS9; clear hS9; go_simp; (try with_reducible rfl))
    (try simp only [Act.put])
    (try simp only [List.setIfInBounds_toArray])
    (repeat (first | simp only [List.set_cons_succ] | simp only [List.set_cons_zero]))
    refine wpD_take (i := 1) (v := ?_) rfl (by kernel_rfl) (fun _ _ _ h => h) (Or.inl ⟨by kernel_rfl, ?_⟩) (by assumption) ?_
    rotate_left
    focus (intro w9 hS9; obtain ⟨z0, z1, z2, z3, z4, z5⟩ := HXB.out w9 hS9; clear hS9; go_simp; (try with_reducible rfl))
    (try simp only [Act.put])
    (try simp only [List.setIfInBounds_toArray])
    (repeat (first | simp only [List.set_cons_succ] | simp only [List.set_cons_zero]))
    refine wpD_take (i := 2) (v := ?_) rfl (by kernel_rfl) (fun _ _ _ h => h) (Or.inl ⟨by kernel_rfl, ?_⟩) (by assumption) ?_
    rotate_left
    focus (intro w9 hS9; (try dsimp only at hS9); go_simp; (try with_reducible rfl))
    (try simp only [Act.put])
    (try simp only [List.setIfInBounds_toArray])
    (repeat (first | simp only [List.set_cons_succ] | simp only [List.set_cons_zero]))
    obtain ⟨s0, s1, s2, s3, s4, s5, sf⟩ := blk6' HX8.out.ra
    obtain ⟨t0, t1, t2, t3, t4, t5, tf⟩ := blk6' HX8.out.rb
    refine wpD_ready (rs := [3]) (by kernel_rfl) (by kernel_rfl) ?_
    refine AllReadyD.cons rfl (fun K hK => ?_) AllReadyD.nil
    rw [if_pos (show _ = true by kernel_rfl)]
    go_simp
    clear hHeld
    refine hK.out _ _ ⟨fun _ => (by with_reducible exact KeepX.drew (KeepX.set6 (KeepX.refl _ _ _) (.inl rfl))), fun h => absurd h (by decide)⟩ (fun hHeld0 => ?_)
    have hHeld := hHeld0.1 rfl
    clear hHeld0 hK K
    refine wpD_ready (rs := [4]) (by kernel_rfl) (by kernel_rfl) ?_
    refine AllReadyD.cons rfl (fun K hK => ?_) AllReadyD.nil
    rw [if_pos (show _ = true by kernel_rfl)]
    go_simp
    clear hHeld
    refine hK.out _ _ ⟨fun _ => (by with_reducible exact KeepX.drew (KeepX.set6 (KeepX.set6 (KeepX.refl _ _ _) (.inl rfl)) (.inr rfl))), fun h => absurd h (by decide)⟩ (fun hHeld0 => ?_)
    have hHeld := hHeld0.1 rfl
    clear hHeld0 hK K
    refine wpD_ready (rs := [5]) (by kernel_rfl) (by kernel_rfl) ?_
    refine AllReadyD.cons rfl (fun K hK => ?_) AllReadyD.nil
    rw [if_pos (show _ = true by kernel_rfl)]
    go_simp
    clear hHeld
    refine hK.out _ _ ⟨fun _ => (by with_reducible exact KeepX.drew (KeepX.set6 (KeepX.set6 (KeepX.refl _ _ _) (.inl rfl)) (.inr rfl))), fun h => absurd h (by decide)⟩ (fun hHeld0 => ?_)
    have hHeld := hHeld0.1 rfl
    clear hHeld0 hK K
    refine wpD_done (by kernel_rfl) ?_
    go_wp2_with (fail)
    have h2 : w.heap.size ≤ w.heap.size + 1 + 1 := by omega
    have h3 : w.heap.size ≤ w.heap.size + 1 + 1 + 1 := by omega
    refine bodyPost_ret (v := .tuple #[.agg #[.string a.nm, .int .i64 a.out, .int .i64 a.inn, .slice x1 a.wt.length y1, .slice x2 a.ours.length y2, .slice x3 a.thr.length y3], .agg #[.string b.nm, .int .i64 b.out, .int .i64 b.inn, .slice z1 b.wt.length e1, .slice z2 b.ours.length e2, .slice z3 b.thr.length e3], .int .i64 er])
      (by simp [results, Tryz.results10, go_sem, s0, s1, s2, s3, s4, s5, t0, t1, t2, t3, t4, t5]) rfl ?_
    refine And.intro ?_ ?_
    · refine rv_mk HR.out ?_ ?_
      · refine HPA.out.keep (fun k hk => .inl hk) (fun k hk => ?_)
        refine KeepX.at (w := _) (x := w.heap.size + 1 + 1) (y := w.heap.size + 1 + 1 + 1) ?_ HX8.out.bel (HSS.out k hk) h2 h3
        with_reducible exact KeepX.drew (KeepX.set6 (KeepX.set6 (KeepX.refl _ _ _) (.inl rfl)) (.inr rfl))
      · refine HPB.out.keep (fun k hk => .inl hk) (fun k hk => ?_)
        refine KeepX.at (w := _) (x := w.heap.size + 1 + 1) (y := w.heap.size + 1 + 1 + 1) ?_ HX8.out.bel (HSS.out k hk) h2 h3
        with_reducible exact KeepX.drew (KeepX.set6 (KeepX.set6 (KeepX.refl _ _ _) (.inl rfl)) (.inr rfl))
    · with_reducible exact Below.drew (bl_set6 (bl_set6 HX8.out.bel h2) h3)
  · obtain rfl : er = 0 := by omega
    have q1' : ((0 : Int) != 0) = false := by decide
    obtain ⟨x, er2, hxe⟩ : ∃ x er2, delivC a b.wt (bs.drop a.wt.length) = (x, er2) := ⟨_, _, rfl⟩
    have HXE := Lib.hid hxe
    rw [hxe] at HZX
    clear q1 hxe
    go_upto_region 6 with (fail)
    (try rw [hwd])
    rw [hb11] at HY0
    (try rw [hb11])
    clear hwd hb11
    obtain ⟨c0, c1, c2, c3, c4, c5, cf'⟩ := blk6' HX8.out.pa
    go_wp2_with (fail)
    refine (deliverR_gen S a b.wt bs a.wt.length _ _ _ _ _ wd (HPA.out.keep (fun _ h => h) (fun k hk => HX8.out.bel.block k (HSS.out k hk))) (fun k hk => Nat.lt_of_lt_of_le (HSS.out k hk) HX8.out.bel.size) HSA.out HF28.out (HL.out.step HX8.out.bel) (by omega) (by omega)).mono ?_
    rintro e w8 ⟨he, hb8⟩
    obtain ⟨u1, f1, u2, f2, u3, f3, rfl, hq8⟩ := he.form
    rw [HXE.out] at hq8 ⊢
    dsimp only at hq8 ⊢
    have HQB := Lib.hid (show QB S w a b x y (.slice x1 a.wt.length y1) (.slice x2 a.ours.length y2) (.slice x3 a.thr.length y3) (.slice z1 b.wt.length e1) (.slice z2 b.ours.length e2) (.slice z3 b.thr.length e3) (.slice u1 x.wt.length f1) (.slice u2 x.ours.length f2) (.slice u3 x.thr.length f3) (.slice v1 y.wt.length k1) (.slice v2 y.ours.length k2) (.slice v3 y.thr.length k3) w8.heap.size b11 (w8.alloc (.cells #[.string x.nm, .int .i64 x.out, .int .i64 x.inn, .slice u1 x.wt.length f1, .slice u2 x.ours.length f2, .slice u3 x.thr.length f3] 29)) from by
      have hs := hb8.size
      have hba := bl_alloc (Below.refl w8.heap.size w8) (.cells #[.string x.nm, .int .i64 x.out, .int .i64 x.inn, .slice u1 x.wt.length f1, .slice u2 x.ours.length f2, .slice u3 x.thr.length f3] 29)
      refine ⟨(HX8.out.step hb8).step hba, alloc1_0 w8 _, Go.Tw.Below.at_old hba (Go.Tw.Below.at_old hb8 HY0.out), hq8.keep (fun k hk => ?_) (fun k hk => hba.block k ?_), HY8.out.keep (fun k hk => ?_) (fun k hk => (hba.block k ?_).trans (hb8.block k ?_))⟩
      · rcases hk with hk | hk
        · have := HSS.out k hk; exact ⟨by simp; omega, .inl hk, by omega, by omega⟩
        · exact ⟨by have := hk.2; simp; omega, .inr (by omega), by omega, by omega⟩
      · rcases hk with hk | hk
        · have := HSS.out k hk; omega
        · exact hk.2
      · have := hk.2; exact ⟨by simp; omega, hk.1, by omega, by omega⟩
      · have := hk.2; omega
      · have := hk.2; omega)
    have hx8 : w.heap.size + 4 ≤ w8.heap.size ∧ w8.heap.size ≠ b11 := by have := hb8.size; omega
    clear c0 c1 c2 c3 c4 c5 cf' hq8 he hb8 HX8 HY8 HY0 HF28 HS8 hd11
    obtain ⟨we, hwe⟩ : ∃ we, w8.alloc (.cells #[.string x.nm, .int .i64 x.out, .int .i64 x.inn, .slice u1 x.wt.length f1, .slice u2 x.ours.length f2, .slice u3 x.thr.length f3] 29) = we := ⟨_, rfl⟩
    rw [hwe] at HQB
    by_cases q2 : er2 ≠ 0
    · have q2' : (er2 != 0) = true := by simpa using q2
      have HR := Lib.hid (show roundC a b bs = (a, b, er2) from by unfold roundC; rw [if_neg (by rw [HYE.out]; simp), if_pos (by rw [HXE.out]; exact q2), HXE.out])
      clear q2
      go_upto_region 8 with (fail)
      (try rw [hwe])
      have HRB := Lib.hid HQB.out.rb
      clear hwe
      have hne1 : w.heap.size ≠ w.heap.size + 1 + 1 ∧ w.heap.size ≠ w.heap.size + 1 + 1 + 1 := by omega
      have hne2 : w.heap.size + 1 ≠ w.heap.size + 1 + 1 ∧ w.heap.size + 1 ≠ w.heap.size + 1 + 1 + 1 := by omega
      have HXA := Lib.hid (box6X HRB.out.pa hne1.1 hne1.2)
      have HXB := Lib.hid (box6X HRB.out.pb hne2.1 hne2.2)
      clear hne1 hne2
      refine wp_region_D (fun j => if j < 6 then 0 else if j < 6 then 1 else 2) (fun w' => KeepX (w.heap.size + 1 + 1) (w.heap.size + 1 + 1 + 1) _ w') (by kernel_rfl) (KeepX.drew (KeepX.refl _ _ _)) (fun hHeld => ?_)
      refine wpD_take (i := 0) (v := ?_) rfl (by kernel_rfl) (fun _ _ _ h => h) (Or.inl ⟨by kernel_rfl, ?_⟩) (by assumption) ?_
      rotate_left
      focus (intro w9 hS9; obtain ⟨z0, z1, z2, z3, z4, z5⟩ := HXA.out w9 hS9; clear hS9; go_simp; (try with_reducible rfl))
      (try simp only [Act.put])
      (try simp only [List.setIfInBounds_toArray])
      (repeat (first | simp only [List.set_cons_succ] | simp only [List.set_cons_zero]))
      refine wpD_take (i := 1) (v := ?_) rfl (by kernel_rfl) (fun _ _ _ h => h) (Or.inl ⟨by kernel_rfl, ?_⟩) (by assumption) ?_
      rotate_left
      focus (intro w9 hS9; obtain ⟨z0, z1, z2, z3, z4, z5⟩ := HXB.out w9 hS9; clear hS9; go_simp; (try with_reducible rfl))
      (try simp only [Act.put])
      (try simp only [List.setIfInBounds_toArray])
      (repeat (first | simp only [List.set_cons_succ] | simp only [List.set_cons_zero]))
      refine wpD_take (i := 2) (v := ?_) rfl (by kernel_rfl) (fun _ _ _ h => h) (Or.inl ⟨by kernel_rfl, ?_⟩) (by assumption) ?_
      rotate_left
      focus (intro w9 hS9; (try dsimp only at hS9); go_simp; (try with_reducible rfl))
      (try simp only [Act.put])
      (try simp only [List.setIfInBounds_toArray])
      (repeat (first | simp only [List.set_cons_succ] | simp only [List.set_cons_zero]))
      obtain ⟨s0, s1, s2, s3, s4, s5, sf⟩ := blk6' HRB.out.ra
      obtain ⟨t0, t1, t2, t3, t4, t5, tf⟩ := blk6' HRB.out.rb
      refine wpD_ready (rs := [3]) (by kernel_rfl) (by kernel_rfl) ?_
      refine AllReadyD.cons rfl (fun K hK => ?_) AllReadyD.nil
      rw [if_pos (show _ = true by kernel_rfl)]
      go_simp
      clear hHeld
      refine hK.out _ _ ⟨fun _ => (by with_reducible exact KeepX.drew (KeepX.set6 (KeepX.refl _ _ _) (.inl rfl))), fun h => absurd h (by decide)⟩ (fun hHeld0 => ?_)
      have hHeld := hHeld0.1 rfl
      clear hHeld0 hK K
      refine wpD_ready (rs := [4]) (by kernel_rfl) (by kernel_rfl) ?_
      refine AllReadyD.cons rfl (fun K hK => ?_) AllReadyD.nil
      rw [if_pos (show _ = true by kernel_rfl)]
      go_simp
      clear hHeld
      refine hK.out _ _ ⟨fun _ => (by with_reducible exact KeepX.drew (KeepX.set6 (KeepX.set6 (KeepX.refl _ _ _) (.inl rfl)) (.inr rfl))), fun h => absurd h (by decide)⟩ (fun hHeld0 => ?_)
      have hHeld := hHeld0.1 rfl
      clear hHeld0 hK K
      refine wpD_ready (rs := [5]) (by kernel_rfl) (by kernel_rfl) ?_
      refine AllReadyD.cons rfl (fun K hK => ?_) AllReadyD.nil
      rw [if_pos (show _ = true by kernel_rfl)]
      go_simp
      clear hHeld
      refine hK.out _ _ ⟨fun _ => (by with_reducible exact KeepX.drew (KeepX.set6 (KeepX.set6 (KeepX.refl _ _ _) (.inl rfl)) (.inr rfl))), fun h => absurd h (by decide)⟩ (fun hHeld0 => ?_)
      have hHeld := hHeld0.1 rfl
      clear hHeld0 hK K
      refine wpD_done (by kernel_rfl) ?_
      go_wp2_with (fail)
      have h2 : w.heap.size ≤ w.heap.size + 1 + 1 := by omega
      have h3 : w.heap.size ≤ w.heap.size + 1 + 1 + 1 := by omega
      refine bodyPost_ret (v := .tuple #[.agg #[.string a.nm, .int .i64 a.out, .int .i64 a.inn, .slice x1 a.wt.length y1, .slice x2 a.ours.length y2, .slice x3 a.thr.length y3], .agg #[.string b.nm, .int .i64 b.out, .int .i64 b.inn, .slice z1 b.wt.length e1, .slice z2 b.ours.length e2, .slice z3 b.thr.length e3], .int .i64 er2])
        (by simp [results, Tryz.results10, go_sem, s0, s1, s2, s3, s4, s5, t0, t1, t2, t3, t4, t5]) rfl ?_
      refine And.intro ?_ ?_
      · refine rv_mk HR.out ?_ ?_
        · refine HPA.out.keep (fun k hk => .inl hk) (fun k hk => ?_)
          refine KeepX.at (w := _) (x := w.heap.size + 1 + 1) (y := w.heap.size + 1 + 1 + 1) ?_ HRB.out.bel (HSS.out k hk) h2 h3
          with_reducible exact KeepX.drew (KeepX.set6 (KeepX.set6 (KeepX.refl _ _ _) (.inl rfl)) (.inr rfl))
        · refine HPB.out.keep (fun k hk => .inl hk) (fun k hk => ?_)
          refine KeepX.at (w := _) (x := w.heap.size + 1 + 1) (y := w.heap.size + 1 + 1 + 1) ?_ HRB.out.bel (HSS.out k hk) h2 h3
          with_reducible exact KeepX.drew (KeepX.set6 (KeepX.set6 (KeepX.refl _ _ _) (.inl rfl)) (.inr rfl))
      · with_reducible exact Below.drew (bl_set6 (bl_set6 HRB.out.bel h2) h3)
    · obtain rfl : er2 = 0 := by omega
      clear q2
      have HR := Lib.hid (show roundC a b bs = ((ackC x (y.inn - 1)).1, (ackC y (x.inn - 1)).1, 0) from by unfold roundC; rw [if_neg (by rw [HYE.out]; simp), if_neg (by rw [HXE.out]; simp), HXE.out, HYE.out])
      have HPX := Lib.hid (show SzP k n (m + k) x from HZX.out)
      have HPY := Lib.hid (show SzP k n (m + k) y from HZY.out)
      obtain ⟨b8, hb8⟩ : ∃ k, w8.heap.size = k := ⟨_, rfl⟩
      rw [hb8] at HQB hx8
      obtain ⟨qa, er3, hqa⟩ : ∃ q er, ackC x (y.inn - 1) = (q, er) := ⟨_, _, rfl⟩
      obtain ⟨qb, er4, hqb⟩ : ∃ q er, ackC y (qa.inn - 1) = (q, er) := ⟨_, _, rfl⟩
      have hqi : qa.inn = x.inn := by have := (ack_keeps x (y.inn - 1)).2.2.1; rw [hqa] at this; exact this
      have HRQ := Lib.hid (show roundC a b bs = (qa, qb, 0) from by rw [HR.out, hqa, ← hqi, hqb])
      have HWA := Lib.hid (show er3 = 0 ∨ (er3 ≠ 0 ∧ qa = x) from by
        by_cases h : y.inn - 1 < 0 ∨ x.out ≤ y.inn - 1
        · rw [ack_refused h] at hqa; cases hqa; exact .inr ⟨by decide, rfl⟩
        · rw [ack_yes h] at hqa; cases hqa; exact .inl rfl)
      have HWB := Lib.hid (show er4 = 0 ∨ (er4 ≠ 0 ∧ qb = y) from by
        by_cases h : qa.inn - 1 < 0 ∨ y.out ≤ qa.inn - 1
        · rw [ack_refused h] at hqb; cases hqb; exact .inr ⟨by decide, rfl⟩
        · rw [ack_yes h] at hqb; cases hqb; exact .inl rfl)
      have HI1 := Lib.hid (HPY.out.i64 (by omega))
      have HI2 := Lib.hid (show i64ok (qa.inn - 1) from by rw [hqi]; exact HPX.out.i64 (by omega))
      have g1 : IntKind.i64.wrap (y.inn - 1) = y.inn - 1 := by have := HI1.out; unfold i64ok at this; exact wrap_in (by omega) (by omega)
      have g2 : IntKind.i64.wrap (qa.inn - 1) = qa.inn - 1 := by have := HI2.out; unfold i64ok at this; exact wrap_in (by omega) (by omega)
      have HQA := Lib.hid hqa
      have HQBE := Lib.hid hqb
      clear hqa hqb hqi HR HZX HZY HYE HXE
      go_upto_region 9 with (fail)
      (try rw [hwe])
      (try rw [hb8])
      clear hwe hb8
      obtain ⟨c0, c1, c2, c3, c4, c5, cf'⟩ := blk6' HQB.out.px
      obtain ⟨d0, d1, d2, d3, d4, d5, df'⟩ := blk6' HQB.out.py
      go_wp2_with (fail)
      refine (ackR_gen (NB S (w.heap.size + 4) b8 b11 we) x (y.inn - 1) _ _ _ we HQB.out.ox (fun k hk => hk.1) (HPX.out.small (by omega) (by omega) (by omega)) HI1.out).mono ?_
      rintro e w9 ⟨he, hb9⟩
      obtain ⟨o1, q1, o2, q2, o3, q3, rfl, hq9⟩ := he.form
      rw [HQA.out] at hq9 ⊢
      dsimp only at hq9 ⊢
      have hlt := HQB.out.lt
      have HQ9 := Lib.hid (HQB.out.step hb9)
      have HO9 := Lib.hid (hq9.keep (S' := NB S (w.heap.size + 4) b8 b11 w9) (w' := w9) (fun k hk => NB.sn hlt.1 hlt.2.1 hlt.2.2 hb9.size k hk) (SameOn.refl _ _))
      clear hq9 he hb9 hlt HQB c0 c1 c2 c3 c4 c5 cf' d0 d1 d2 d3 d4 d5 df'
      obtain ⟨wf, hwf⟩ : ∃ wf, w9.alloc (.cells #[.string qa.nm, .int .i64 qa.out, .int .i64 qa.inn, .slice o1 qa.wt.length q1, .slice o2 qa.ours.length q2, .slice o3 qa.thr.length q3] 29) = wf := ⟨_, rfl⟩
      have hba : Below w9.heap.size w9 wf := by rw [← hwf]; exact bl_alloc (Below.refl _ _) _
      have HBX := Lib.hid (show wf.heap[w9.heap.size]? = some (.cells #[.string qa.nm, .int .i64 qa.out, .int .i64 qa.inn, .slice o1 qa.wt.length q1, .slice o2 qa.ours.length q2, .slice o3 qa.thr.length q3] 29 (0, 0)) by rw [← hwf]; exact alloc1_0 w9 _)
      have HQF := Lib.hid (HQ9.out.step hba)
      have HOF := Lib.hid (HO9.out.keep (S' := NB S (w.heap.size + 4) b8 b11 wf) (w' := wf) (NB.up hba.size) (fun k hk => hba.block k hk.1))
      have hb89 : b8 < w9.heap.size := HQ9.out.lt.1
      clear hba HQ9 HO9
      go_upto_if 58 with (fail)
      (try rw [hwf])
      obtain ⟨b15, hb15⟩ : ∃ k, w9.heap.size = k := ⟨_, rfl⟩
      rw [hb15] at HBX hb89
      (try rw [hb15])
      clear hwf hb15
      go_cut [11] (fun v11 wx => ∃ (p1 p2 p3 : Option Addr) (s1 s2 s3 : Nat), v11 = .pointer (some ⟨b11, 0, none⟩) ∧ QB S w a b qa y (.slice x1 a.wt.length y1) (.slice x2 a.ours.length y2) (.slice x3 a.thr.length y3) (.slice z1 b.wt.length e1) (.slice z2 b.ours.length e2) (.slice z3 b.thr.length e3) (.slice p1 qa.wt.length s1) (.slice p2 qa.ours.length s2) (.slice p3 qa.thr.length s3) (.slice v1 y.wt.length k1) (.slice v2 y.ours.length k2) (.slice v3 y.thr.length k3) b8 b11 wx)
      case first =>
        rcases HWA.out with h3 | ⟨h3, h4⟩
        · obtain rfl := h3
          have q3' : ((0 : Int) == 0) = true := by decide
          obtain ⟨c0, c1, c2, c3, c4, c5, cf'⟩ := blk6' HQF.out.px
          obtain ⟨d0, d1, d2, d3, d4, d5, df'⟩ := blk6' HBX.out
          have HFIN := Lib.hid (HQF.out.setx hx8.1 hx8.2 HOF.out)
          go_wp2_with (fail)
          go_meet
          exact ⟨_, _, _, _, _, _, rfl, HFIN.out⟩
        · have q3' : (er3 == 0) = false := by simpa using h3
          obtain rfl := h4
          clear h3
          go_wp2_with (fail)
          go_meet
          exact ⟨_, _, _, _, _, _, rfl, HQF.out⟩
      case rest =>
        obtain ⟨p1, p2, p3, s1, s2, s3, rfl, hqb⟩ := hcut
        clear HQF HOF HBX hb89 HWA HQA HPX HI1
        have HQB := Lib.hid hqb
        clear hqb
        obtain ⟨we, hwe⟩ : ∃ we, wc = we := ⟨_, rfl⟩
        rw [hwe] at HQB ⊢
        clear hwe
        obtain ⟨c0, c1, c2, c3, c4, c5, cf'⟩ := blk6' HQB.out.px
        obtain ⟨d0, d1, d2, d3, d4, d5, df'⟩ := blk6' HQB.out.py
        go_wp2_with (fail)
        refine (ackR_gen (NB S (w.heap.size + 4) b8 b11 we) y (qa.inn - 1) _ _ _ we HQB.out.oy (fun k hk => hk.1) (HPY.out.small (by omega) (by omega) (by omega)) HI2.out).mono ?_
        rintro e w9 ⟨he, hb9⟩
        obtain ⟨o1, q1, o2, q2, o3, q3, rfl, hq9⟩ := he.form
        rw [HQBE.out] at hq9 ⊢
        dsimp only at hq9 ⊢
        have hlt := HQB.out.lt
        have HQ9 := Lib.hid (HQB.out.step hb9)
        have HO9 := Lib.hid (hq9.keep (S' := NB S (w.heap.size + 4) b8 b11 w9) (w' := w9) (fun k hk => NB.sn hlt.1 hlt.2.1 hlt.2.2 hb9.size k hk) (SameOn.refl _ _))
        clear hq9 he hb9 hlt HQB c0 c1 c2 c3 c4 c5 cf' d0 d1 d2 d3 d4 d5 df'
        obtain ⟨wf, hwf⟩ : ∃ wf, w9.alloc (.cells #[.string qb.nm, .int .i64 qb.out, .int .i64 qb.inn, .slice o1 qb.wt.length q1, .slice o2 qb.ours.length q2, .slice o3 qb.thr.length q3] 29) = wf := ⟨_, rfl⟩
        have hba : Below w9.heap.size w9 wf := by rw [← hwf]; exact bl_alloc (Below.refl _ _) _
        have HBX := Lib.hid (show wf.heap[w9.heap.size]? = some (.cells #[.string qb.nm, .int .i64 qb.out, .int .i64 qb.inn, .slice o1 qb.wt.length q1, .slice o2 qb.ours.length q2, .slice o3 qb.thr.length q3] 29 (0, 0)) by rw [← hwf]; exact alloc1_0 w9 _)
        have HQF := Lib.hid (HQ9.out.step hba)
        have HOF := Lib.hid (HO9.out.keep (S' := NB S (w.heap.size + 4) b8 b11 wf) (w' := wf) (NB.up hba.size) (fun k hk => hba.block k hk.1))
        have hb89 : b11 < w9.heap.size := HQ9.out.lt.2.1
        clear hba HQ9 HO9
        go_upto_if 69 with (fail)
        (try rw [hwf])
        obtain ⟨b17, hb17⟩ : ∃ k, w9.heap.size = k := ⟨_, rfl⟩
        rw [hb17] at HBX hb89
        (try rw [hb17])
        clear hwf hb17
        go_cut [11] (fun v11 wx => ∃ (r1 r2 r3 : Option Addr) (t1 t2 t3 : Nat), v11 = .pointer (some ⟨b11, 0, none⟩) ∧ QB S w a b qa qb (.slice x1 a.wt.length y1) (.slice x2 a.ours.length y2) (.slice x3 a.thr.length y3) (.slice z1 b.wt.length e1) (.slice z2 b.ours.length e2) (.slice z3 b.thr.length e3) (.slice p1 qa.wt.length s1) (.slice p2 qa.ours.length s2) (.slice p3 qa.thr.length s3) (.slice r1 qb.wt.length t1) (.slice r2 qb.ours.length t2) (.slice r3 qb.thr.length t3) b8 b11 wx)
        case first =>
          rcases HWB.out with h3 | ⟨h3, h4⟩
          · obtain rfl := h3
            have q3' : ((0 : Int) == 0) = true := by decide
            obtain ⟨c0, c1, c2, c3, c4, c5, cf'⟩ := blk6' HQF.out.py
            obtain ⟨d0, d1, d2, d3, d4, d5, df'⟩ := blk6' HBX.out
            have HFIN := Lib.hid (HQF.out.sety h411 hx8.2 HOF.out)
            go_wp2_with (fail)
            go_meet
            exact ⟨_, _, _, _, _, _, rfl, HFIN.out⟩
          · have q3' : (er4 == 0) = false := by simpa using h3
            obtain rfl := h4
            clear h3
            go_wp2_with (fail)
            go_meet
            exact ⟨_, _, _, _, _, _, rfl, HQF.out⟩
        case rest =>
          obtain ⟨r1, r2, r3, t1, t2, t3, rfl, hqb⟩ := hcut
          clear HQF HOF HBX hb89 HWB HQBE HPY HI2
          have HQB := Lib.hid hqb
          clear hqb
          have hn1 : b8 ≠ w.heap.size + 1 + 1 ∧ b8 ≠ w.heap.size + 1 + 1 + 1 := by omega
          have hn2 : b11 ≠ w.heap.size + 1 + 1 ∧ b11 ≠ w.heap.size + 1 + 1 + 1 := by omega
          have HX8 := Lib.hid (box6X HQB.out.px hn1.1 hn1.2)
          have HX9 := Lib.hid (box6X HQB.out.py hn2.1 hn2.2)
          clear hn1 hn2
          go_upto_region 15 with (fail)
          refine wp_region_D (fun j => if j < 5 then 0 else if j < 5 then 1 else 2) (fun w' => KeepX (w.heap.size + 1 + 1) (w.heap.size + 1 + 1 + 1) wc w') (by kernel_rfl) (KeepX.drew (KeepX.refl _ _ _)) (fun hHeld => ?_)
          refine wpD_take (i := 0) (v := ?_) rfl (by kernel_rfl) (fun _ _ _ h => h) (Or.inl ⟨by kernel_rfl, ?_⟩) (by assumption) ?_
          rotate_left
          focus (intro w9 hS9; obtain ⟨z0, z1, z2, z3, z4, z5⟩ := HX8.out w9 hS9; clear hS9; go_simp; (try with_reducible rfl))
          (try simp only [Act.put])
          (try simp only [List.setIfInBounds_toArray])
          (repeat (first | simp only [List.set_cons_succ] | simp only [List.set_cons_zero]))
          refine wpD_take (i := 1) (v := ?_) rfl (by kernel_rfl) (fun _ _ _ h => h) (Or.inl ⟨by kernel_rfl, ?_⟩) (by assumption) ?_
          rotate_left
          focus (intro w9 hS9; obtain ⟨z0, z1, z2, z3, z4, z5⟩ := HX9.out w9 hS9; clear hS9; go_simp; (try with_reducible rfl))
          (try simp only [Act.put])
          (try simp only [List.setIfInBounds_toArray])
          (repeat (first | simp only [List.set_cons_succ] | simp only [List.set_cons_zero]))
          obtain ⟨s0, s1', s2', s3', s4, s5, sf⟩ := blk6' HQB.out.rb.ra
          obtain ⟨t0, t1', t2', t3', t4, t5, tf⟩ := blk6' HQB.out.rb.rb
          refine wpD_ready (rs := [2]) (by kernel_rfl) (by kernel_rfl) ?_
          refine AllReadyD.cons rfl (fun K hK => ?_) AllReadyD.nil
          rw [if_pos (show _ = true by kernel_rfl)]
          go_simp
          clear hHeld
          refine hK.out _ _ ⟨fun _ => (by with_reducible exact KeepX.drew (KeepX.set6 (KeepX.refl _ _ _) (.inl rfl))), fun h => absurd h (by decide)⟩ (fun hHeld0 => ?_)
          have hHeld := hHeld0.1 rfl
          clear hHeld0 hK K
          refine wpD_ready (rs := [3]) (by kernel_rfl) (by kernel_rfl) ?_
          refine AllReadyD.cons rfl (fun K hK => ?_) AllReadyD.nil
          rw [if_pos (show _ = true by kernel_rfl)]
          go_simp
          clear hHeld
          refine hK.out _ _ ⟨fun _ => (by with_reducible exact KeepX.drew (KeepX.set6 (KeepX.set6 (KeepX.refl _ _ _) (.inl rfl)) (.inr rfl))), fun h => absurd h (by decide)⟩ (fun hHeld0 => ?_)
          have hHeld := hHeld0.1 rfl
          clear hHeld0 hK K
          refine wpD_ready (rs := [4]) (by kernel_rfl) (by kernel_rfl) ?_
          refine AllReadyD.cons rfl (fun K hK => ?_) AllReadyD.nil
          rw [if_pos (show _ = true by kernel_rfl)]
          go_simp
          clear hHeld
          refine hK.out _ _ ⟨fun _ => (by with_reducible exact KeepX.drew (KeepX.set6 (KeepX.set6 (KeepX.refl _ _ _) (.inl rfl)) (.inr rfl))), fun h => absurd h (by decide)⟩ (fun hHeld0 => ?_)
          have hHeld := hHeld0.1 rfl
          clear hHeld0 hK K
          refine wpD_done (by kernel_rfl) ?_
          go_wp2_with (fail)
          have h2 : w.heap.size ≤ w.heap.size + 1 + 1 := by omega
          have h3 : w.heap.size ≤ w.heap.size + 1 + 1 + 1 := by omega
          refine bodyPost_ret (v := .tuple #[.agg #[.string qa.nm, .int .i64 qa.out, .int .i64 qa.inn, .slice p1 qa.wt.length s1, .slice p2 qa.ours.length s2, .slice p3 qa.thr.length s3], .agg #[.string qb.nm, .int .i64 qb.out, .int .i64 qb.inn, .slice r1 qb.wt.length t1, .slice r2 qb.ours.length t2, .slice r3 qb.thr.length t3], .int .i64 0])
            (by simp [results, Tryz.results10, go_sem, s0, s1', s2', s3', s4, s5, t0, t1', t2', t3', t4, t5]) rfl ?_
          have hup : ∀ (W : World), W.heap.size = wc.heap.size → ∀ k, NB S (w.heap.size + 4) b8 b11 wc k → SN S w.heap.size W.heap.size k := fun W hW k hk => by
            rcases hk.2.1 with h | h
            · exact .inl h
            · exact .inr ⟨by omega, by have := hk.1; omega⟩
          have hne : ∀ k, NB S (w.heap.size + 4) b8 b11 wc k → k ≠ w.heap.size + 1 + 1 ∧ k ≠ w.heap.size + 1 + 1 + 1 := fun k hk => by
            rcases hk.2.1 with h | h
            · have := HSS.out k h; omega
            · omega
          refine And.intro ?_ ?_
          · refine rv_mk HRQ.out ?_ ?_
            · refine HQB.out.ox.keep (hup _ (by simp)) (fun k hk => ?_)
              refine KeepX.out (w := wc) (x := w.heap.size + 1 + 1) (y := w.heap.size + 1 + 1 + 1) ?_ k (hne k hk).1 (hne k hk).2
              with_reducible exact KeepX.drew (KeepX.set6 (KeepX.set6 (KeepX.refl _ _ _) (.inl rfl)) (.inr rfl))
            · refine HQB.out.oy.keep (hup _ (by simp)) (fun k hk => ?_)
              refine KeepX.out (w := wc) (x := w.heap.size + 1 + 1) (y := w.heap.size + 1 + 1 + 1) ?_ k (hne k hk).1 (hne k hk).2
              with_reducible exact KeepX.drew (KeepX.set6 (KeepX.set6 (KeepX.refl _ _ _) (.inl rfl)) (.inr rfl))
          · with_reducible exact Below.drew (bl_set6 (bl_set6 HQB.out.rb.bel h2) h3)
end Go.Proofs.YtmjbbpappigngaaGreat
