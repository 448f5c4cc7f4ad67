/-
  Layer 44 (recon): the walk of Round.
-/
import Derived.Test.YtmjbbpappigngaaGreatMgK
import Derived.Test.YtmjbbpappigngaaGreatMgH
import Derived.Test.YtmjbbpappigngaaGreatMgJ
import Derived.Test.YtmjbbpappigngaaGreatHeldD
namespace Go.Proofs.YtmjbbpappigngaaGreat
open Go.RowKit Go.Tw Go.Tw.Exc
/-- the blocks of S, and those from n on below m -/
def SN (S : Nat → Prop) (n m : Nat) : Nat → Prop := fun k => S k ∨ (n ≤ k ∧ k < m)
/-- two partners and a number, handed back -/
def RV (S : Nat → Prop) (w' : World) (e : Ending) (r : Par × Par × Int) : Prop := ∃ v1 v2, e = .returned (.tuple #[v1, v2, .int .i64 r.2.2]) ∧ PV S w' r.1 v1 ∧ PV S w' r.2.1 v2
theorem rv_mk {S : Nat → Prop} {w' : World} {r : Par × Par × Int} {p q : Par} {n : Int} {x1 x2 x3 y1 y2 y3 : Value} (h : r = (p, q, n)) (hp : ParOk S w' p x1 x2 x3) (hq : ParOk S w' q y1 y2 y3) :
    RV S w' (.returned (.tuple #[.agg #[.string p.nm, .int .i64 p.out, .int .i64 p.inn, x1, x2, x3], .agg #[.string q.nm, .int .i64 q.out, .int .i64 q.inn, y1, y2, y3], .int .i64 n])) r := by
  subst h; exact ⟨_, _, rfl, ⟨_, _, _, rfl, hp⟩, ⟨_, _, _, rfl, hq⟩⟩
theorem rv_form {S : Nat → Prop} {w' : World} {e : Ending} {r : Par × Par × Int} (h : RV S w' e r) : ∃ u1 c1 u2 c2 u3 c3 g1 h1 g2 h2 g3 h3, e = .returned (.tuple #[.agg #[.string r.1.nm, .int .i64 r.1.out, .int .i64 r.1.inn, .slice u1 r.1.wt.length c1, .slice u2 r.1.ours.length c2, .slice u3 r.1.thr.length c3], .agg #[.string r.2.1.nm, .int .i64 r.2.1.out, .int .i64 r.2.1.inn, .slice g1 r.2.1.wt.length h1, .slice g2 r.2.1.ours.length h2, .slice g3 r.2.1.thr.length h3], .int .i64 r.2.2]) ∧
    ParOk S w' r.1 (.slice u1 r.1.wt.length c1) (.slice u2 r.1.ours.length c2) (.slice u3 r.1.thr.length c3) ∧ ParOk S w' r.2.1 (.slice g1 r.2.1.wt.length h1) (.slice g2 r.2.1.ours.length h2) (.slice g3 r.2.1.thr.length h3) := by
  obtain ⟨v1, v2, rfl, p1, p2⟩ := h
  obtain ⟨u1, c1, u2, c2, u3, c3, rfl, hq1⟩ := pv_form p1
  obtain ⟨g1, h1, g2, h2, g3, h3, rfl, hq2⟩ := pv_form p2
  exact ⟨_, _, _, _, _, _, _, _, _, _, _, _, rfl, hq1, hq2⟩
/-- all blocks but two are as they were -/
structure KeepX (x y : Nat) (w w' : World) : Prop where
  out : ∀ k, k ≠ x → k ≠ y → w'.heap[k]? = w.heap[k]?
theorem KeepX.drew {x y : Nat} {w w' : World} (h : KeepX x y w w') : KeepX x y w w'.drew := ⟨h.out⟩
theorem KeepX.refl (x y : Nat) (w : World) : KeepX x y w w := ⟨fun _ _ _ => rfl⟩
theorem KeepX.set6 {x y b : Nat} {w w' : World} {x0 x1 x2 x3 x4 x5 : Value} (h : KeepX x y w w') (hb : b = x ∨ b = y) : KeepX x y w ((((((w'.setCell ⟨b, 0, none⟩ x0).setCell ⟨b, 1, none⟩ x1).setCell ⟨b, 2, none⟩ x2).setCell ⟨b, 3, none⟩ x3).setCell ⟨b, 4, none⟩ x4).setCell ⟨b, 5, none⟩ x5) :=
  ⟨fun k h1 h2 => (set6_ne (by omega)).trans (h.out k h1 h2)⟩
theorem KeepX.at {x y k : Nat} {w0 w w' : World} (h : KeepX x y w w') (hb : Below w0.heap.size w0 w) (hk : k < w0.heap.size) (h1 : w0.heap.size ≤ x) (h2 : w0.heap.size ≤ y) : w'.heap[k]? = w0.heap[k]? := (h.out k (by omega) (by omega)).trans (hb.block k hk)
theorem bl_set6 {a w' : World} {b : Nat} {x0 x1 x2 x3 x4 x5 : Value} (h : Below a.heap.size a w') (hl : a.heap.size ≤ b) : Below a.heap.size a ((((((w'.setCell ⟨b, 0, none⟩ x0).setCell ⟨b, 1, none⟩ x1).setCell ⟨b, 2, none⟩ x2).setCell ⟨b, 3, none⟩ x3).setCell ⟨b, 4, none⟩ x4).setCell ⟨b, 5, none⟩ x5) :=
  bl_set (bl_set (bl_set (bl_set (bl_set (bl_set h _ hl) _ hl) _ hl) _ hl) _ hl) _ hl
theorem box6X {wb : World} {b x y : Nat} {t : TypeId} {a0 a1 a2 a3 a4 a5 : Value} (h : wb.heap[b]? = some (.cells #[a0, a1, a2, a3, a4, a5] t (0, 0))) (h1 : b ≠ x) (h2 : b ≠ y) : ∀ w', KeepX x y wb w' → w'.cell? ⟨b, 0, none⟩ = some a0 ∧ w'.cell? ⟨b, 1, none⟩ = some a1 ∧ w'.cell? ⟨b, 2, none⟩ = some a2 ∧ w'.cell? ⟨b, 3, none⟩ = some a3 ∧ w'.cell? ⟨b, 4, none⟩ = some a4 ∧ w'.cell? ⟨b, 5, none⟩ = some a5 := fun w' hb => by
  obtain ⟨h0, h1, h2, h3, h4, h5, -⟩ := blk6' ((hb.out b h1 h2).trans h)
  exact ⟨h0, h1, h2, h3, h4, h5⟩
theorem PEs.form {S : Nat → Prop} {w w' : World} {e : Ending} {q : Par × Int} (h : PEs S w w' e q) : ∃ u1 c1 u2 c2 u3 c3, e = .returned (.tuple #[.agg #[.string q.1.nm, .int .i64 q.1.out, .int .i64 q.1.inn, .slice u1 q.1.wt.length c1, .slice u2 q.1.ours.length c2, .slice u3 q.1.thr.length c3], .int .i64 q.2]) ∧
    ParOk (fun k => S k ∨ (w.heap.size ≤ k ∧ k < w'.heap.size)) w' q.1 (.slice u1 q.1.wt.length c1) (.slice u2 q.1.ours.length c2) (.slice u3 q.1.thr.length c3) := by
  obtain ⟨v1, v2, v3, rfl, hq⟩ := h
  obtain ⟨u1, c1, _, _, rfl, -⟩ := id hq.wt
  obtain ⟨u2, c2, _, _, rfl, -⟩ := id hq.ours
  obtain ⟨u3, c3, _, _, rfl, -⟩ := id hq.thr
  exact ⟨_, _, _, _, _, _, rfl, hq⟩
theorem pes_sn {S : Nat → Prop} {n : Nat} {w w' : World} {p : Par} {x1 x2 x3 : Value} (h : ParOk (fun k => S k ∨ (w.heap.size ≤ k ∧ k < w'.heap.size)) w' p x1 x2 x3) (hn : n ≤ w.heap.size) : ParOk (SN S n w'.heap.size) w' p x1 x2 x3 :=
  h.keep (fun k hk => by
    rcases hk with h | h
    · exact .inl h
    · exact .inr ⟨by omega, h.2⟩) (SameOn.refl _ _)
theorem SN.lt {S : Nat → Prop} {n m : Nat} (h : ∀ k, S k → k < m) : ∀ k, SN S n m k → k < m := fun k hk => by
  rcases hk with h' | h'
  · exact h k h'
  · exact h'.2
theorem parOk_sn {S : Nat → Prop} {n : Nat} {W w : World} {p : Par} {a b c : Value} (o : ParOk (SN S n W.heap.size) W p a b c) (hb : Below W.heap.size W w) (hs : ∀ k, S k → k < W.heap.size) : ParOk (SN S n w.heap.size) w p a b c :=
  o.keep (fun k hk => by
    rcases hk with h | h
    · exact .inl h
    · exact .inr ⟨h.1, by have := hb.size; omega⟩) (fun k hk => hb.block k (SN.lt hs k hk))
theorem lt_step {S : Nat → Prop} {W w : World} (h : ∀ k, S k → k < W.heap.size) (hb : Below W.heap.size W w) : ∀ k, S k → k < w.heap.size := fun k hk => Nat.lt_of_lt_of_le (h k hk) hb.size
theorem parOk_all {S : Nat → Prop} {n : Nat} {W : World} {p : Par} {a b c : Value} (o : ParOk (SN S n W.heap.size) W p a b c) (hs : ∀ k, S k → k < W.heap.size) : ParOk (· < W.heap.size) W p a b c :=
  o.keep (fun k hk => SN.lt hs k hk) (SameOn.refl _ _)
/- the two partners that came in go back, with an error: $1 the function, $2 the boxes, $3 the world, $4 the error, $5 the equation -/
set_option maxRecDepth 100000 in
set_option maxHeartbeats 8000000 in
theorem round_gen (S : Nat → Prop) (k n m : Nat) (a b : Par) (bs : List Bool) (a1 a2 a3 b1 b2 b3 vl : Value) (w : World) (hpa : ParOk S w a a1 a2 a3) (hpb : ParOk S w b b1 b2 b3) (hss : ∀ k, S k → k < w.heap.size) (hl : SlIs tBool (· < w.heap.size) w vl bs) (hsa : SzP k n m a) (hsb : SzP k n m b) (hn : n ≤ 1000) (hkm : m + k ≤ 1000) :
    Calls Tryz.prog 9 #[.agg #[.string a.nm, .int .i64 a.out, .int .i64 a.inn, a1, a2, a3], .agg #[.string b.nm, .int .i64 b.out, .int .i64 b.inn, b1, b2, b3], vl] w
      fun e w' => RV (SN S w.heap.size w'.heap.size) w' e (roundC a b bs) ∧ Below w.heap.size w w' := by
  have ha : ParOk (· < w.heap.size) w a a1 a2 a3 := hpa.keep hss (SameOn.refl _ _)
  have hb : ParOk (· < w.heap.size) w b b1 b2 b3 := hpb.keep hss (SameOn.refl _ _)
  have HSS := Lib.hid hss
  have HPA := Lib.hid hpa
  have HPB := Lib.hid hpb
  have HA := Lib.hid ha
  have HB := Lib.hid hb
  have HL := Lib.hid hl
  have HSA := Lib.hid (hsa.small (by omega) (by omega) (by omega))
  have HSB := Lib.hid (hsb.small (by omega) (by omega) (by omega))
  have HZX := Lib.hid (show SzP k n (m + k) (delivC a b.wt (bs.drop a.wt.length)).1 from hsa.deliv hsb.rw hsb.wt _)
  have HZY := Lib.hid (show SzP k n (m + k) (delivC b a.wt bs).1 from hsb.deliv hsa.rw hsa.wt _)
  obtain ⟨x1, y1, _, _, rfl, -⟩ := id ha.wt
  obtain ⟨x2, y2, _, _, rfl, -⟩ := id ha.ours
  obtain ⟨x3, y3, _, _, rfl, -⟩ := id ha.thr
  obtain ⟨z1, e1, _, _, rfl, -⟩ := id hb.wt
  obtain ⟨z2, e2, _, _, rfl, -⟩ := id hb.ours
  obtain ⟨z3, e3, _, _, rfl, -⟩ := id hb.thr
  obtain ⟨al, cl, bl, ol, rfl, hl1, hl2, -⟩ := id hl
  unfold maxLen at hl2
  have hwl := hsa.wt
  clear ha hb hl hsa hsb hpa hpb hss
  go_enter Tryz.func9, Tryz.ntmps9
  go_upto_region 1 with (fail)
  obtain ⟨wb, hwb⟩ : ∃ wb, (((w.alloc (.cells #[.string a.nm, .int .i64 a.out, .int .i64 a.inn, .slice x1 a.wt.length y1, .slice x2 a.ours.length y2, .slice x3 a.thr.length y3] 29)).alloc (.cells #[.string b.nm, .int .i64 b.out, .int .i64 b.inn, .slice z1 b.wt.length e1, .slice z2 b.ours.length e2, .slice z3 b.thr.length e3] 29)).alloc (.cells #[.string ⟨#[]⟩, .int .i64 0, .int .i64 0, .slice none 0 0, .slice none 0 0, .slice none 0 0] 29)).alloc (.cells #[.string ⟨#[]⟩, .int .i64 0, .int .i64 0, .slice none 0 0, .slice none 0 0, .slice none 0 0] 29) = wb := ⟨_, rfl⟩
  have HX := Lib.hid (show RB w a b (.slice x1 a.wt.length y1) (.slice x2 a.ours.length y2) (.slice x3 a.thr.length y3) (.slice z1 b.wt.length e1) (.slice z2 b.ours.length e2) (.slice z3 b.thr.length e3) wb from by
    rw [← hwb]
    exact ⟨bl_alloc (bl_alloc (bl_alloc (bl_alloc (Below.refl _ _) _) _) _) _, alloc4_0 w _ _ _ _, alloc4_1 w _ _ _ _, alloc4_2 w _ _ _ _, alloc4_3 w _ _ _ _⟩)
  rw [hwb]
  clear hwb
  have HXA := Lib.hid (box6D HX.out.pa)
  have HXB := Lib.hid (box6D HX.out.pb)
  have HW := Lib.hid (Below.refl wb.heap.size wb)
  refine wp_region_E 4 (fun w' => Below wb.heap.size wb w') (by kernel_rfl) ((by (repeat (first | (with_reducible exact Below.refl _ _) | (with_reducible exact HW.out) | (with_reducible apply bl_drewN) | (with_reducible apply bl_alloc) | (with_reducible apply Below.drew))); done)) (fun hHeld => ?_)
  refine wpE_take (i := 0) (v := ?_) rfl (by kernel_rfl) (fun _ _ _ h => h) (Or.inl ⟨by kernel_rfl, ?_⟩) (by assumption) ?_
  rotate_left
  focus (intro w9 hS9; obtain ⟨z0, z1, z2, z3, z4, z5⟩ := HXA.out w9 hS9; clear hS9; go_simp; (try with_reducible rfl))
  (try simp only [Act.put])
  (try simp only [List.setIfInBounds_toArray])
  (repeat (first | simp only [List.set_cons_succ] | simp only [List.set_cons_zero]))
  refine wpE_take (i := 2) (v := ?_) rfl (by kernel_rfl) (fun _ _ _ h => h) (Or.inl ⟨by kernel_rfl, ?_⟩) (by assumption) ?_
  rotate_left
  focus (intro w9 hS9; obtain ⟨z0, z1, z2, z3, z4, z5⟩ := HXB.out w9 hS9; clear hS9; go_simp; (try with_reducible rfl))
  (try simp only [Act.put])
  (try simp only [List.setIfInBounds_toArray])
  (repeat (first | simp only [List.set_cons_succ] | simp only [List.set_cons_zero]))
  refine wpE_ready (rs := [1]) (by kernel_rfl) (by kernel_rfl) ?_
  refine AllReadyE.cons rfl (fun K hK => ?_) AllReadyE.nil
  rw [if_pos (show _ = true by kernel_rfl)]
  go_simp
  go_wp2_with (
    go_at_call 26
    refine (resend_any a _ _ _ _ (HA.out.step (show Below w.heap.size w _ from bl_trans HX.out.bel (by (repeat (first | (with_reducible exact Below.refl _ _) | (with_reducible exact HW.out) | (with_reducible apply bl_drewN) | (with_reducible apply bl_alloc) | (with_reducible apply Below.drew))); done))) HSA.out).mono ?_
    rintro e w5 ⟨⟨vr, rfl, hr⟩, hb6⟩
    obtain ⟨af, cf, _, _, rfl, -⟩ := id hr
    have HF1 := Lib.hid hr
    have HP1 := Lib.hid (show Below wb.heap.size wb w5 from by (refine bl_trans ?_ hb6; exact (by (repeat (first | (with_reducible exact Below.refl _ _) | (with_reducible exact HW.out) | (with_reducible apply bl_drewN) | (with_reducible apply bl_alloc) | (with_reducible apply Below.drew))); done)))
    have HS6 := Lib.hid hb6
    clear HW hb6 hr
    have HW := HP1
    clear HP1)
  clear hHeld
  refine hK.out _ _ (HW.out) (fun hHeld => ?_)
  clear hK K
  refine wpE_ready (rs := [3]) (by kernel_rfl) (by kernel_rfl) ?_
  refine AllReadyE.cons rfl (fun K hK => ?_) AllReadyE.nil
  clear HS6
  rw [if_pos (show _ = true by kernel_rfl)]
  go_simp
  go_wp2_with (
    go_at_call 26
    refine (resend_any b _ _ _ _ (HB.out.step (show Below w.heap.size w _ from bl_trans HX.out.bel (by (repeat (first | (with_reducible exact Below.refl _ _) | (with_reducible exact HW.out) | (with_reducible apply bl_drewN) | (with_reducible apply bl_alloc) | (with_reducible apply Below.drew))); done))) HSB.out).mono ?_
    rintro e w6 ⟨⟨vr, rfl, hr⟩, hb6⟩
    obtain ⟨bf, df, _, _, rfl, -⟩ := id hr
    have HF2 := Lib.hid hr
    have HP1 := Lib.hid (show Below wb.heap.size wb w6 from by (refine bl_trans ?_ hb6; exact (by (repeat (first | (with_reducible exact Below.refl _ _) | (with_reducible exact HW.out) | (with_reducible apply bl_drewN) | (with_reducible apply bl_alloc) | (with_reducible apply Below.drew))); done)))
    have HS6 := Lib.hid hb6
    clear HW hb6 hr
    have HW := HP1
    clear HP1)
  clear hHeld
  refine hK.out _ _ (HW.out) (fun hHeld => ?_)
  clear hK K
  clear hHeld
  refine wpE_out (by kernel_rfl) ?_
  refine wpAny_ready (rs := [4]) (by kernel_rfl) (by simp) ?_
  refine AllReady.cons rfl (fun K hK => ?_) AllReady.nil
  rw [if_pos (show _ = true by kernel_rfl)]
  go_simp
  refine hK _ _ ?_
  clear hK K
  refine wpAny_ready (rs := [5]) (by kernel_rfl) (by simp) ?_
  refine AllReady.cons rfl (fun K hK => ?_) AllReady.nil
  rw [if_pos (show _ = true by kernel_rfl)]
  go_simp
  refine hK _ _ ?_
  clear hK K
  refine wpAny_done (by kernel_rfl) ?_ _
  have HX6 := Lib.hid (HX.out.step HW.out)
  have HF16 := Lib.hid (HF1.out.step (w := w6) HS6.out)
  obtain ⟨c0, c1, c2, c3, c4, c5, cf'⟩ := blk6' HX6.out.pb
  clear HXA HXB HW HX HF1 HS6
  go_wp2_with (fail)
  refine (deliver_gen S b a.wt bs _ _ _ _ _ w6 (HPB.out.keep (fun _ h => h) (fun k hk => HX6.out.bel.block k (HSS.out k hk))) (fun k hk => Nat.lt_of_lt_of_le (HSS.out k hk) HX6.out.bel.size) HSB.out HF16.out (HL.out.step HX6.out.bel)).mono ?_
  rintro e w7 ⟨he, hb7⟩
  obtain ⟨v1, k1, v2, k2, v3, k3, rfl, hq7⟩ := he.form
  obtain ⟨y, er, hye⟩ : ∃ y er, delivC b a.wt bs = (y, er) := ⟨_, _, rfl⟩
  rw [hye] at hq7 ⊢
  rw [hye] at HZY
  dsimp only at hq7 ⊢
  have h46 : w.heap.size + 4 ≤ w6.heap.size := by have := lt_of_heap HX6.out.rb; omega
  have HS7 := Lib.hid (show ∀ k, S k → k < w7.heap.size from fun k hk => Nat.lt_of_lt_of_le (HSS.out k hk) (bl_trans HX6.out.bel hb7).size)
  have HY7 := Lib.hid (pes_sn hq7 h46)
  clear h46
  have HYE := Lib.hid hye
  have HX7 := Lib.hid (HX6.out.step hb7)
  have HF27 := Lib.hid (HF2.out.step hb7)
  have HF17 := Lib.hid (HF16.out.step hb7)
  clear c0 c1 c2 c3 c4 c5 cf' HX6 HF2 HF16 hb7 hq7 hye he
  obtain ⟨wc, hwc⟩ : ∃ wc, w7.alloc (.cells #[.string y.nm, .int .i64 y.out, .int .i64 y.inn, .slice v1 y.wt.length k1, .slice v2 y.ours.length k2, .slice v3 y.thr.length k3] 29) = wc := ⟨_, rfl⟩
  have hy0 := alloc1_0 w7 (.cells #[.string y.nm, .int .i64 y.out, .int .i64 y.inn, .slice v1 y.wt.length k1, .slice v2 y.ours.length k2, .slice v3 y.thr.length k3] 29)
  rw [hwc] at hy0
  have HY0 := Lib.hid hy0
  have hbc : Below w7.heap.size w7 wc := by rw [← hwc]; exact bl_alloc (Below.refl _ _) _
  have HX8 := Lib.hid (HX7.out.step hbc)
  have HS8 := Lib.hid (show ∀ k, S k → k < wc.heap.size from fun k hk => Nat.lt_of_lt_of_le (HS7.out k hk) hbc.size)
  have HY8 := Lib.hid (parOk_sn HY7.out hbc HS7.out)
  have HF28 := Lib.hid (HF27.out.step hbc)
  clear hy0 hbc HX7 HY7 HF27 HF17 HS7
  by_cases q1 : er ≠ 0
  · have q1' : (er != 0) = true := by simpa using q1
    have HR := Lib.hid (show roundC a b bs = (a, b, er) from by unfold roundC; rw [if_pos (by rw [HYE.out]; exact q1), HYE.out])
    clear q1
    go_upto_region 4 with (fail)
    (try rw [hwc])
    obtain ⟨b11, hb11⟩ : ∃ k, w7.heap.size = k := ⟨_, rfl⟩
    rw [hb11] at HY0 ⊢
    clear hwc hb11
    have hne1 : w.heap.size ≠ w.heap.size + 1 + 1 ∧ w.heap.size ≠ w.heap.size + 1 + 1 + 1 := by omega
    have hne2 : w.heap.size + 1 ≠ w.heap.size + 1 + 1 ∧ w.heap.size + 1 ≠ w.heap.size + 1 + 1 + 1 := by omega
    have HXA := Lib.hid (box6X HX8.out.pa hne1.1 hne1.2)
    have HXB := Lib.hid (box6X HX8.out.pb hne2.1 hne2.2)
    clear hne1 hne2
    refine wp_region_E 5 (fun w' => KeepX (w.heap.size + 1 + 1) (w.heap.size + 1 + 1 + 1) wc w') (by kernel_rfl) (KeepX.drew (KeepX.refl _ _ _)) (fun hHeld => ?_)
    refine wpE_take (i := 0) (v := ?_) rfl (by kernel_rfl) (fun _ _ _ h => h) (Or.inl ⟨by kernel_rfl, ?_⟩) (by assumption) ?_
    rotate_left
    focus (intro w9 hS9; obtain ⟨z0, z1, z2, z3, z4, z5⟩ := HXA.out w9 hS9; clear hS9; go_simp; (try with_reducible rfl))
    (try simp only [Act.put])
    (try simp only [List.setIfInBounds_toArray])
    (repeat (first | simp only [List.set_cons_succ] | simp only [List.set_cons_zero]))
    refine wpE_take (i := 1) (v := ?_) rfl (by kernel_rfl) (fun _ _ _ h => h) (Or.inl ⟨by kernel_rfl, ?_⟩) (by assumption) ?_
    rotate_left
    focus (intro w9 hS9; obtain ⟨z0, z1, z2, z3, z4, z5⟩ := HXB.out w9 hS9; clear hS9; go_simp; (try with_reducible rfl))
    (try simp only [Act.put])
    (try simp only [List.setIfInBounds_toArray])
    (repeat (first | simp only [List.set_cons_succ] | simp only [List.set_cons_zero]))
    refine wpE_take (i := 2) (v := ?_) rfl (by kernel_rfl) (fun _ _ _ h => h) (Or.inl ⟨by kernel_rfl, ?_⟩) (by assumption) ?_
    rotate_left
    focus (intro w9 hS9; (try dsimp only at hS9); go_simp; (try with_reducible rfl))
    (try simp only [Act.put])
    (try simp only [List.setIfInBounds_toArray])
    (repeat (first | simp only [List.set_cons_succ] | simp only [List.set_cons_zero]))
    obtain ⟨s0, s1, s2, s3, s4, s5, sf⟩ := blk6' HX8.out.ra
    obtain ⟨t0, t1, t2, t3, t4, t5, tf⟩ := blk6' HX8.out.rb
    refine wpE_ready (rs := [3]) (by kernel_rfl) (by kernel_rfl) ?_
    refine AllReadyE.cons rfl (fun K hK => ?_) AllReadyE.nil
    rw [if_pos (show _ = true by kernel_rfl)]
    go_simp
    clear hHeld
    refine hK.out _ _ ?_ (fun hHeld => ?_)
    · with_reducible exact KeepX.drew (KeepX.set6 (KeepX.refl _ _ _) (.inl rfl))
    clear hK K
    refine wpE_ready (rs := [4]) (by kernel_rfl) (by kernel_rfl) ?_
    refine AllReadyE.cons rfl (fun K hK => ?_) AllReadyE.nil
    rw [if_pos (show _ = true by kernel_rfl)]
    go_simp
    clear hHeld
    refine hK.out _ _ ?_ (fun hHeld => ?_)
    · with_reducible exact KeepX.drew (KeepX.set6 (KeepX.set6 (KeepX.refl _ _ _) (.inl rfl)) (.inr rfl))
    clear hK K
    clear hHeld
    refine wpE_out (by kernel_rfl) ?_
    refine wpAny_ready (rs := [5]) (by kernel_rfl) (by simp) ?_
    refine AllReady.cons rfl (fun K hK => ?_) AllReady.nil
    rw [if_pos (show _ = true by kernel_rfl)]
    go_simp
    refine hK _ _ ?_
    clear hK K
    refine wpAny_done (by kernel_rfl) ?_ _
    go_wp2_with (fail)
    have h2 : w.heap.size ≤ w.heap.size + 1 + 1 := by omega
    have h3 : w.heap.size ≤ w.heap.size + 1 + 1 + 1 := by omega
    refine bodyPost_ret (v := .tuple #[.agg #[.string a.nm, .int .i64 a.out, .int .i64 a.inn, .slice x1 a.wt.length y1, .slice x2 a.ours.length y2, .slice x3 a.thr.length y3], .agg #[.string b.nm, .int .i64 b.out, .int .i64 b.inn, .slice z1 b.wt.length e1, .slice z2 b.ours.length e2, .slice z3 b.thr.length e3], .int .i64 er])
      (by simp [results, Tryz.results9, go_sem, s0, s1, s2, s3, s4, s5, t0, t1, t2, t3, t4, t5]) rfl ?_
    refine And.intro ?_ ?_
    · refine rv_mk HR.out ?_ ?_
      · refine HPA.out.keep (fun k hk => .inl hk) (fun k hk => ?_)
        refine KeepX.at (w := _) (x := w.heap.size + 1 + 1) (y := w.heap.size + 1 + 1 + 1) ?_ HX8.out.bel (HSS.out k hk) h2 h3
        with_reducible exact KeepX.drew (KeepX.set6 (KeepX.set6 (KeepX.refl _ _ _) (.inl rfl)) (.inr rfl))
      · refine HPB.out.keep (fun k hk => .inl hk) (fun k hk => ?_)
        refine KeepX.at (w := _) (x := w.heap.size + 1 + 1) (y := w.heap.size + 1 + 1 + 1) ?_ HX8.out.bel (HSS.out k hk) h2 h3
        with_reducible exact KeepX.drew (KeepX.set6 (KeepX.set6 (KeepX.refl _ _ _) (.inl rfl)) (.inr rfl))
    · with_reducible exact Below.drew (bl_set6 (bl_set6 HX8.out.bel h2) h3)
  · obtain rfl : er = 0 := by omega
    have q1' : ((0 : Int) != 0) = false := by decide
    obtain ⟨m9, hm9⟩ : ∃ m9 : Nat, min (bs.length : Int) (a.wt.length : Int) = (m9 : Int) := ⟨min bs.length a.wt.length, by omega⟩
    have m1 : m9 ≤ bs.length := by omega
    have m2 : m9 ≤ cl := by omega
    have m3 : (m9 : Int) ≤ (bs.length : Int) := by omega
    have m4 : (m9 : Int) ≤ (cl : Int) := by omega
    have HMD := Lib.hid (show bs.drop m9 = bs.drop a.wt.length from by
      rcases Nat.le_total bs.length a.wt.length with q | q
      · rw [List.drop_eq_nil_of_le (by omega), List.drop_eq_nil_of_le q]
      · rw [show m9 = a.wt.length by omega])
    obtain ⟨x, er2, hxe⟩ : ∃ x er2, delivC a b.wt (bs.drop a.wt.length) = (x, er2) := ⟨_, _, rfl⟩
    have HXE := Lib.hid hxe
    rw [hxe] at HZX
    have HLD := Lib.hid (SlIs.drop (t := m9) (k := m9) HL.out m1 (by show m9 = m9 * 1; omega))
    have HCD := Lib.hid (show ∀ W', Below wc.heap.size wc W' → ∀ (av : Option Addr) (kc : Nat), (if cl = m9 then al else Option.map (fun x => x.add m9) al) = av → cl - m9 = kc → Calls Tryz.prog 27 #[.agg #[.string a.nm, .int .i64 a.out, .int .i64 a.inn, .slice x1 a.wt.length y1, .slice x2 a.ours.length y2, .slice x3 a.thr.length y3], .slice bf b.wt.length df, .slice av (bs.length - m9) kc] W'
        fun e w' => (∃ u1 c1 u2 c2 u3 c3, e = .returned (.tuple #[.agg #[.string x.nm, .int .i64 x.out, .int .i64 x.inn, .slice u1 x.wt.length c1, .slice u2 x.ours.length c2, .slice u3 x.thr.length c3], .int .i64 er2]) ∧
          ParOk (fun k => S k ∨ (W'.heap.size ≤ k ∧ k < w'.heap.size)) w' x (.slice u1 x.wt.length c1) (.slice u2 x.ours.length c2) (.slice u3 x.thr.length c3)) ∧ Below W'.heap.size W' w' from fun W' hW av kc hav hkc => by
      rw [← hav, ← hkc]
      have hb := bl_trans HX8.out.bel hW
      refine (deliver_gen S a b.wt (bs.drop m9) _ _ _ _ _ W' (HPA.out.keep (fun _ h => h) (fun k hk => hb.block k (HSS.out k hk))) (fun k hk => Nat.lt_of_lt_of_le (HSS.out k hk) hb.size) HSA.out (HF28.out.step hW) (HLD.out.keep (fun k hk => Nat.lt_of_lt_of_le hk hb.size) (.of_below hb))).mono ?_
      rintro e w' ⟨he, hb'⟩
      obtain ⟨u1, c1, u2, c2, u3, c3, rfl, hq⟩ := he.form
      rw [HMD.out, HXE.out] at hq ⊢
      exact ⟨⟨u1, c1, u2, c2, u3, c3, rfl, hq⟩, hb'⟩)
    clear hxe q1
    go_upto_region 5 with (fail)
    (try rw [hwc])
    obtain ⟨b11, hb11⟩ : ∃ k, w7.heap.size = k := ⟨_, rfl⟩
    rw [hb11] at HY0 ⊢
    clear hwc hb11
    go_cut [13, 12] (fun v13 v12 wx => ∃ b13 u1 c1 u2 c2 u3 c3, v13 = .pointer (some ⟨b13, 0, none⟩) ∧ v12 = .int .i64 er2 ∧ wx.heap[b13]? = some (.cells #[.string x.nm, .int .i64 x.out, .int .i64 x.inn, .slice u1 x.wt.length c1, .slice u2 x.ours.length c2, .slice u3 x.thr.length c3] 29 (0, 0)) ∧ Below wc.heap.size wc wx ∧ ParOk (SN S (w.heap.size + 4) wx.heap.size) wx x (.slice u1 x.wt.length c1) (.slice u2 x.ours.length c2) (.slice u3 x.thr.length c3))
    case first =>
      have HXA := Lib.hid (box6D HX8.out.pa)
      have HW := Lib.hid (Below.refl wc.heap.size wc)
      have hw4 : w.heap.size + 4 ≤ wc.heap.size := by have := lt_of_heap HX8.out.rb; omega
      refine wp_region_E 15 (fun w' => Below wc.heap.size wc w') (by kernel_rfl) ((by (repeat (first | (with_reducible exact Below.refl _ _) | (with_reducible exact HW.out) | (with_reducible apply bl_drewN) | (with_reducible apply bl_alloc) | (with_reducible apply Below.drew))); done)) (fun hHeld => ?_)
      refine wpE_take (i := 0) (v := ?_) rfl (by kernel_rfl) (fun _ _ _ h => h) (Or.inl ⟨by kernel_rfl, ?_⟩) (by assumption) ?_
      rotate_left
      focus (intro w9 hS9; obtain ⟨z0, z1, z2, z3, z4, z5⟩ := HXA.out w9 hS9; clear hS9; go_simp; (try with_reducible rfl))
      (try simp only [Act.put])
      (try simp only [List.setIfInBounds_toArray])
      (repeat (first | simp only [List.set_cons_succ] | simp only [List.set_cons_zero]))
      refine wpE_take (i := 1) (v := ?_) rfl (by kernel_rfl) (fun _ _ _ h => h) (Or.inl ⟨by kernel_rfl, ?_⟩) (by assumption) ?_
      rotate_left
      focus (intro w9 hS9; (try dsimp only at hS9); go_simp; (try with_reducible rfl))
      (try simp only [Act.put])
      (try simp only [List.setIfInBounds_toArray])
      (repeat (first | simp only [List.set_cons_succ] | simp only [List.set_cons_zero]))
      refine wpE_take (i := 2) (v := ?_) rfl (by kernel_rfl) (fun _ _ _ h => h) (Or.inl ⟨by kernel_rfl, ?_⟩) (by assumption) ?_
      rotate_left
      focus (intro w9 hS9; (try dsimp only at hS9); go_simp; (try with_reducible rfl))
      (try simp only [Act.put])
      (try simp only [List.setIfInBounds_toArray])
      (repeat (first | simp only [List.set_cons_succ] | simp only [List.set_cons_zero]))
      refine wpE_take (i := 3) (v := ?_) rfl (by kernel_rfl) (fun _ _ _ h => h) (Or.inl ⟨by kernel_rfl, ?_⟩) (by assumption) ?_
      rotate_left
      focus (intro w9 hS9; (try dsimp only at hS9); go_simp; (try with_reducible rfl))
      (try simp only [Act.put])
      (try simp only [List.setIfInBounds_toArray])
      (repeat (first | simp only [List.set_cons_succ] | simp only [List.set_cons_zero]))
      refine wpE_take (i := 4) (v := ?_) rfl (by kernel_rfl) (fun _ _ _ h => h) (Or.inl ⟨by kernel_rfl, ?_⟩) (by assumption) ?_
      rotate_left
      focus (intro w9 hS9; (try dsimp only at hS9); go_simp; (try with_reducible rfl))
      (try simp only [Act.put])
      (try simp only [List.setIfInBounds_toArray])
      (repeat (first | simp only [List.set_cons_succ] | simp only [List.set_cons_zero]))
      refine wpE_take (i := 5) (v := ?_) rfl (by kernel_rfl) (fun _ _ _ h => h) (Or.inl ⟨by kernel_rfl, ?_⟩) (by assumption) ?_
      rotate_left
      focus (intro w9 hS9; (try dsimp only at hS9); go_simp; (try with_reducible rfl))
      (try simp only [Act.put])
      (try simp only [List.setIfInBounds_toArray])
      (repeat (first | simp only [List.set_cons_succ] | simp only [List.set_cons_zero]))
      refine wpE_take (i := 6) (v := ?_) rfl (by kernel_rfl) (fun _ _ _ h => h) (Or.inl ⟨by kernel_rfl, ?_⟩) (by assumption) ?_
      rotate_left
      focus (intro w9 hS9; (try dsimp only at hS9); go_simp; (try with_reducible rfl))
      (try simp only [Act.put])
      (try simp only [List.setIfInBounds_toArray])
      (repeat (first | simp only [List.set_cons_succ] | simp only [List.set_cons_zero]))
      refine wpE_take (i := 7) (v := ?_) rfl (by kernel_rfl) (fun _ _ _ h => h) (Or.inl ⟨by kernel_rfl, ?_⟩) (by assumption) ?_
      rotate_left
      focus (intro w9 hS9; (try dsimp only at hS9); go_simp; (try with_reducible rfl))
      (try simp only [Act.put])
      (try simp only [List.setIfInBounds_toArray])
      (repeat (first | simp only [List.set_cons_succ] | simp only [List.set_cons_zero]))
      refine wpE_take (i := 8) (v := ?_) rfl (by kernel_rfl) (fun _ _ _ h => h) (Or.inl ⟨by kernel_rfl, ?_⟩) (by assumption) ?_
      rotate_left
      focus (intro w9 hS9; (try dsimp only at hS9); go_simp; (try with_reducible rfl))
      (try simp only [Act.put])
      (try simp only [List.setIfInBounds_toArray])
      (repeat (first | simp only [List.set_cons_succ] | simp only [List.set_cons_zero]))
      generalize hav9 : (if cl = m9 then al else Option.map (fun x => x.add m9) al) = av9
      have HAV := Lib.hid hav9
      clear hav9
      refine wpE_ready (rs := [9, 13]) (by kernel_rfl) (by kernel_rfl) ?_
      refine AllReadyE.cons rfl (fun K hK => ?_) (AllReadyE.cons rfl (fun K hK => ?_) AllReadyE.nil)
      · rw [if_pos (show _ = true by kernel_rfl)]
        go_simp
        go_wp2_with (
          go_at_call 27
          refine (HCD.out _ (by (repeat (first | (with_reducible exact Below.refl _ _) | (with_reducible exact HW.out) | (with_reducible apply bl_drewN) | (with_reducible apply bl_alloc) | (with_reducible apply Below.drew))); done) _ _ HAV.out rfl).mono ?_
          rintro e w9 ⟨⟨u1, f1, u2, f2, u3, f3, rfl, hq9⟩, hb9⟩
          have HQ9 := Lib.hid hq9
          have HP1 := Lib.hid (show Below wc.heap.size wc w9 from by (refine bl_trans ?_ hb9; exact (by (repeat (first | (with_reducible exact Below.refl _ _) | (with_reducible exact HW.out) | (with_reducible apply bl_drewN) | (with_reducible apply bl_alloc) | (with_reducible apply Below.drew))); done)))
          have HS9 := Lib.hid hb9
          clear HW hb9 hq9
          have HW := HP1
          clear HP1)
        clear hHeld
        refine hK.out _ _ (HW.out) (fun hHeld => ?_)
        clear hK K
        refine wpE_take (i := 10) (v := ?_) rfl (by kernel_rfl) (fun _ _ _ h => h) (Or.inl ⟨by kernel_rfl, ?_⟩) (by assumption) ?_
        rotate_left
        focus (intro w9 hS9; (try dsimp only at hS9); go_simp; (try with_reducible rfl))
        (try simp only [Act.put])
        (try simp only [List.setIfInBounds_toArray])
        (repeat (first | simp only [List.set_cons_succ] | simp only [List.set_cons_zero]))
        refine wpE_take (i := 11) (v := ?_) rfl (by kernel_rfl) (fun _ _ _ h => h) (Or.inl ⟨by kernel_rfl, ?_⟩) (by assumption) ?_
        rotate_left
        focus (intro w9 hS9; (try dsimp only at hS9); go_simp; (try with_reducible rfl))
        (try simp only [Act.put])
        (try simp only [List.setIfInBounds_toArray])
        (repeat (first | simp only [List.set_cons_succ] | simp only [List.set_cons_zero]))
        refine wpE_take (i := 12) (v := ?_) rfl (by kernel_rfl) (fun _ _ _ h => h) (Or.inl ⟨by kernel_rfl, ?_⟩) (by assumption) ?_
        rotate_left
        focus (intro w9 hS9; (try dsimp only at hS9); go_simp; (try with_reducible rfl))
        (try simp only [Act.put])
        (try simp only [List.setIfInBounds_toArray])
        (repeat (first | simp only [List.set_cons_succ] | simp only [List.set_cons_zero]))
        refine wpE_ready (rs := [13]) (by kernel_rfl) (by kernel_rfl) ?_
        refine AllReadyE.cons rfl (fun K hK => ?_) AllReadyE.nil
        rw [if_pos (show _ = true by kernel_rfl)]
        go_simp
        clear hHeld
        refine hK.out _ _ ((by (repeat (first | (with_reducible exact Below.refl _ _) | (with_reducible exact HW.out) | (with_reducible apply bl_drewN) | (with_reducible apply bl_alloc) | (with_reducible apply Below.drew))); done)) (fun hHeld => ?_)
        clear hK K
        refine wpE_ready (rs := [14]) (by kernel_rfl) (by kernel_rfl) ?_
        refine AllReadyE.cons rfl (fun K hK => ?_) AllReadyE.nil
        rw [if_pos (show _ = true by kernel_rfl)]
        go_simp
        clear hHeld
        refine hK.out _ _ ((by (repeat (first | (with_reducible exact Below.refl _ _) | (with_reducible exact HW.out) | (with_reducible apply bl_drewN) | (with_reducible apply bl_alloc) | (with_reducible apply Below.drew))); done)) (fun hHeld => ?_)
        clear hK K
        clear hHeld
        refine wpE_out (by kernel_rfl) ?_
        refine wpAny_ready (rs := [15]) (by kernel_rfl) (by simp) ?_
        refine AllReady.cons rfl (fun K hK => ?_) AllReady.nil
        rw [if_pos (show _ = true by kernel_rfl)]
        go_simp
        refine hK _ _ ?_
        clear hK K
        refine wpAny_done (by kernel_rfl) ?_ _
        go_wp2_with (fail)
        go_meet
        refine ⟨_, _, _, _, _, _, _, rfl, rfl, alloc1_0 _ _, bl_alloc HW.out _, HQ9.out.keep (fun j hj => ?_) (fun j hj => Below.heap_alloc _ _ _ ?_)⟩
        · have h9' : wc.heap.size ≤ w9.heap.size := HS9.out.size
          rcases hj with hj | hj
          · exact .inl hj
          · have h1 : wc.heap.size ≤ j := hj.1
            exact .inr ⟨by omega, by have := hj.2; simp; omega⟩
        · have h9' : wc.heap.size ≤ w9.heap.size := HS9.out.size
          rcases hj with hj | hj
          · have := HS8.out j hj; omega
          · exact hj.2
      · rw [if_pos (show _ = true by kernel_rfl)]
        go_simp
        clear hHeld
        refine hK.out _ _ ((by (repeat (first | (with_reducible exact Below.refl _ _) | (with_reducible exact HW.out) | (with_reducible apply bl_drewN) | (with_reducible apply bl_alloc) | (with_reducible apply Below.drew))); done)) (fun hHeld => ?_)
        clear hK K
        refine wpE_ready (rs := [9]) (by kernel_rfl) (by kernel_rfl) ?_
        refine AllReadyE.cons rfl (fun K hK => ?_) AllReadyE.nil
        rw [if_pos (show _ = true by kernel_rfl)]
        go_simp
        go_wp2_with (
          go_at_call 27
          refine (HCD.out _ (by (repeat (first | (with_reducible exact Below.refl _ _) | (with_reducible exact HW.out) | (with_reducible apply bl_drewN) | (with_reducible apply bl_alloc) | (with_reducible apply Below.drew))); done) _ _ HAV.out rfl).mono ?_
          rintro e w9 ⟨⟨u1, f1, u2, f2, u3, f3, rfl, hq9⟩, hb9⟩
          have HQ9 := Lib.hid hq9
          have HP1 := Lib.hid (show Below wc.heap.size wc w9 from by (refine bl_trans ?_ hb9; exact (by (repeat (first | (with_reducible exact Below.refl _ _) | (with_reducible exact HW.out) | (with_reducible apply bl_drewN) | (with_reducible apply bl_alloc) | (with_reducible apply Below.drew))); done)))
          have m0 := Go.Tw.Below.at_old hb9 (alloc1_0 wc.drew _); have HS9 := Lib.hid hb9
          clear HW hb9 hq9
          have HW := HP1
          clear HP1)
        clear hHeld
        refine hK.out _ _ (HW.out) (fun hHeld => ?_)
        clear hK K
        refine wpE_take (i := 10) (v := ?_) rfl (by kernel_rfl) (fun _ _ _ h => h) (Or.inl ⟨by kernel_rfl, ?_⟩) (by assumption) ?_
        rotate_left
        focus (intro w9 hS9; (try dsimp only at hS9); go_simp; (try with_reducible rfl))
        (try simp only [Act.put])
        (try simp only [List.setIfInBounds_toArray])
        (repeat (first | simp only [List.set_cons_succ] | simp only [List.set_cons_zero]))
        refine wpE_take (i := 11) (v := ?_) rfl (by kernel_rfl) (fun _ _ _ h => h) (Or.inl ⟨by kernel_rfl, ?_⟩) (by assumption) ?_
        rotate_left
        focus (intro w9 hS9; (try dsimp only at hS9); go_simp; (try with_reducible rfl))
        (try simp only [Act.put])
        (try simp only [List.setIfInBounds_toArray])
        (repeat (first | simp only [List.set_cons_succ] | simp only [List.set_cons_zero]))
        refine wpE_take (i := 12) (v := ?_) rfl (by kernel_rfl) (fun _ _ _ h => h) (Or.inl ⟨by kernel_rfl, ?_⟩) (by assumption) ?_
        rotate_left
        focus (intro w9 hS9; (try dsimp only at hS9); go_simp; (try with_reducible rfl))
        (try simp only [Act.put])
        (try simp only [List.setIfInBounds_toArray])
        (repeat (first | simp only [List.set_cons_succ] | simp only [List.set_cons_zero]))
        have M0 := Lib.hid (show w9.heap[wc.heap.size]? = some (.cells #[.string ⟨#[]⟩, .int .i64 0, .int .i64 0, .slice none 0 0, .slice none 0 0, .slice none 0 0] 29 (0, 0)) from m0)
        clear m0
        obtain ⟨y0', y1', y2', y3', y4', y5', yf⟩ := blk6' M0.out
        refine wpE_ready (rs := [14]) (by kernel_rfl) (by kernel_rfl) ?_
        refine AllReadyE.cons rfl (fun K hK => ?_) AllReadyE.nil
        rw [if_pos (show _ = true by kernel_rfl)]
        go_simp
        clear hHeld
        refine hK.out _ _ ((by (repeat (first | (with_reducible exact HW.out) | (with_reducible apply bl_drewN) | (with_reducible apply bl_alloc) | ((with_reducible refine bl_set ?_ _ ?_); rotate_left; focus (first | exact Nat.le_refl _ | (simp; done) | (simp; omega))))))) (fun hHeld => ?_)
        clear hK K
        clear hHeld
        refine wpE_out (by kernel_rfl) ?_
        refine wpAny_ready (rs := [15]) (by kernel_rfl) (by simp) ?_
        refine AllReady.cons rfl (fun K hK => ?_) AllReady.nil
        rw [if_pos (show _ = true by kernel_rfl)]
        go_simp
        refine hK _ _ ?_
        clear hK K
        refine wpAny_done (by kernel_rfl) ?_ _
        go_wp2_with (fail)
        go_meet
        have h9' : wc.heap.size + 1 ≤ w9.heap.size := by have := HS9.out.size; simpa using this
        refine ⟨_, _, _, _, _, _, _, rfl, rfl, set6_same M0.out, (by (repeat (first | (with_reducible exact HW.out) | (with_reducible apply bl_drewN) | (with_reducible apply bl_alloc) | ((with_reducible refine bl_set ?_ _ ?_); rotate_left; focus (first | exact Nat.le_refl _ | (simp; done) | (simp; omega)))))), HQ9.out.keep (fun j hj => ?_) (fun j hj => set6_ne ?_)⟩
        · rcases hj with hj | hj
          · exact .inl hj
          · have h1 : wc.heap.size + 1 ≤ j := by have := hj.1; simpa using this
            exact .inr ⟨by omega, by have := hj.2; simp; omega⟩
        · rcases hj with hj | hj
          · have := HS8.out j hj; omega
          · have h1 : wc.heap.size + 1 ≤ j := by have := hj.1; simpa using this
            omega
    case rest =>
      obtain ⟨b13, u1, f1, u2, f2, u3, f3, rfl, rfl, hx13, hbc, hox⟩ := hcut
      have HX9 := Lib.hid (HX8.out.step hbc)
      have HS9 := Lib.hid (lt_step HS8.out hbc)
      have HX13 := Lib.hid hx13
      have HOX := Lib.hid hox
      have HOY := Lib.hid (parOk_sn HY8.out hbc HS8.out)
      have HX11 := Lib.hid (Go.Tw.Below.at_old hbc HY0.out)
      clear hx13 hbc hox HX8 HS8 HY8 HY0 HCD
      have hw4 : w.heap.size + 4 ≤ wc.heap.size := by have := lt_of_heap HX9.out.rb; omega
      by_cases q2 : er2 ≠ 0
      · have q2' : (er2 != 0) = true := by simpa using q2
        have HR := Lib.hid (show roundC a b bs = (a, b, er2) from by unfold roundC; rw [if_neg (by rw [HYE.out]; simp), if_pos (by rw [HXE.out]; exact q2), HXE.out])
        clear q2
        go_upto_region 7 with (fail)
        have hne1 : w.heap.size ≠ w.heap.size + 1 + 1 ∧ w.heap.size ≠ w.heap.size + 1 + 1 + 1 := by omega
        have hne2 : w.heap.size + 1 ≠ w.heap.size + 1 + 1 ∧ w.heap.size + 1 ≠ w.heap.size + 1 + 1 + 1 := by omega
        have HXA := Lib.hid (box6X HX9.out.pa hne1.1 hne1.2)
        have HXB := Lib.hid (box6X HX9.out.pb hne2.1 hne2.2)
        clear hne1 hne2
        refine wp_region_E 5 (fun w' => KeepX (w.heap.size + 1 + 1) (w.heap.size + 1 + 1 + 1) wc w') (by kernel_rfl) (KeepX.drew (KeepX.refl _ _ _)) (fun hHeld => ?_)
        refine wpE_take (i := 0) (v := ?_) rfl (by kernel_rfl) (fun _ _ _ h => h) (Or.inl ⟨by kernel_rfl, ?_⟩) (by assumption) ?_
        rotate_left
        focus (intro w9 hS9; obtain ⟨z0, z1, z2, z3, z4, z5⟩ := HXA.out w9 hS9; clear hS9; go_simp; (try with_reducible rfl))
        (try simp only [Act.put])
        (try simp only [List.setIfInBounds_toArray])
        (repeat (first | simp only [List.set_cons_succ] | simp only [List.set_cons_zero]))
        refine wpE_take (i := 1) (v := ?_) rfl (by kernel_rfl) (fun _ _ _ h => h) (Or.inl ⟨by kernel_rfl, ?_⟩) (by assumption) ?_
        rotate_left
        focus (intro w9 hS9; obtain ⟨z0, z1, z2, z3, z4, z5⟩ := HXB.out w9 hS9; clear hS9; go_simp; (try with_reducible rfl))
        (try simp only [Act.put])
        (try simp only [List.setIfInBounds_toArray])
        (repeat (first | simp only [List.set_cons_succ] | simp only [List.set_cons_zero]))
        refine wpE_take (i := 2) (v := ?_) rfl (by kernel_rfl) (fun _ _ _ h => h) (Or.inl ⟨by kernel_rfl, ?_⟩) (by assumption) ?_
        rotate_left
        focus (intro w9 hS9; (try dsimp only at hS9); go_simp; (try with_reducible rfl))
        (try simp only [Act.put])
        (try simp only [List.setIfInBounds_toArray])
        (repeat (first | simp only [List.set_cons_succ] | simp only [List.set_cons_zero]))
        obtain ⟨s0, s1, s2, s3, s4, s5, sf⟩ := blk6' HX9.out.ra
        obtain ⟨t0, t1, t2, t3, t4, t5, tf⟩ := blk6' HX9.out.rb
        refine wpE_ready (rs := [3]) (by kernel_rfl) (by kernel_rfl) ?_
        refine AllReadyE.cons rfl (fun K hK => ?_) AllReadyE.nil
        rw [if_pos (show _ = true by kernel_rfl)]
        go_simp
        clear hHeld
        refine hK.out _ _ ?_ (fun hHeld => ?_)
        · with_reducible exact KeepX.drew (KeepX.set6 (KeepX.refl _ _ _) (.inl rfl))
        clear hK K
        refine wpE_ready (rs := [4]) (by kernel_rfl) (by kernel_rfl) ?_
        refine AllReadyE.cons rfl (fun K hK => ?_) AllReadyE.nil
        rw [if_pos (show _ = true by kernel_rfl)]
        go_simp
        clear hHeld
        refine hK.out _ _ ?_ (fun hHeld => ?_)
        · with_reducible exact KeepX.drew (KeepX.set6 (KeepX.set6 (KeepX.refl _ _ _) (.inl rfl)) (.inr rfl))
        clear hK K
        clear hHeld
        refine wpE_out (by kernel_rfl) ?_
        refine wpAny_ready (rs := [5]) (by kernel_rfl) (by simp) ?_
        refine AllReady.cons rfl (fun K hK => ?_) AllReady.nil
        rw [if_pos (show _ = true by kernel_rfl)]
        go_simp
        refine hK _ _ ?_
        clear hK K
        refine wpAny_done (by kernel_rfl) ?_ _
        go_wp2_with (fail)
        have h2 : w.heap.size ≤ w.heap.size + 1 + 1 := by omega
        have h3 : w.heap.size ≤ w.heap.size + 1 + 1 + 1 := by omega
        refine bodyPost_ret (v := .tuple #[.agg #[.string a.nm, .int .i64 a.out, .int .i64 a.inn, .slice x1 a.wt.length y1, .slice x2 a.ours.length y2, .slice x3 a.thr.length y3], .agg #[.string b.nm, .int .i64 b.out, .int .i64 b.inn, .slice z1 b.wt.length e1, .slice z2 b.ours.length e2, .slice z3 b.thr.length e3], .int .i64 er2])
          (by simp [results, Tryz.results9, go_sem, s0, s1, s2, s3, s4, s5, t0, t1, t2, t3, t4, t5]) rfl ?_
        refine And.intro ?_ ?_
        · refine rv_mk HR.out ?_ ?_
          · refine HPA.out.keep (fun k hk => .inl hk) (fun k hk => ?_)
            refine KeepX.at (w := _) (x := w.heap.size + 1 + 1) (y := w.heap.size + 1 + 1 + 1) ?_ HX9.out.bel (HSS.out k hk) h2 h3
            with_reducible exact KeepX.drew (KeepX.set6 (KeepX.set6 (KeepX.refl _ _ _) (.inl rfl)) (.inr rfl))
          · refine HPB.out.keep (fun k hk => .inl hk) (fun k hk => ?_)
            refine KeepX.at (w := _) (x := w.heap.size + 1 + 1) (y := w.heap.size + 1 + 1 + 1) ?_ HX9.out.bel (HSS.out k hk) h2 h3
            with_reducible exact KeepX.drew (KeepX.set6 (KeepX.set6 (KeepX.refl _ _ _) (.inl rfl)) (.inr rfl))
        · with_reducible exact Below.drew (bl_set6 (bl_set6 HX9.out.bel h2) h3)
      · obtain rfl : er2 = 0 := by omega
        clear q2
        have HR := Lib.hid (show roundC a b bs = ((ackC x (y.inn - 1)).1, (ackC y (x.inn - 1)).1, 0) from by unfold roundC; rw [if_neg (by rw [HYE.out]; simp), if_neg (by rw [HXE.out]; simp), HXE.out, HYE.out])
        have H13 := Lib.hid (box6D HX13.out)
        have H11 := Lib.hid (box6D HX11.out)
        obtain ⟨qa, hqa⟩ : ∃ q, (ackC x (y.inn - 1)).1 = q := ⟨_, rfl⟩
        obtain ⟨qb, hqb⟩ : ∃ q, (ackC y (x.inn - 1)).1 = q := ⟨_, rfl⟩
        have HPX := Lib.hid (show SzP k n (m + k) x from HZX.out)
        have HPY := Lib.hid (show SzP k n (m + k) y from HZY.out)
        have HC1 := Lib.hid (show ∀ W', Below wc.heap.size wc W' → Calls Tryz.prog 28 #[.agg #[.string x.nm, .int .i64 x.out, .int .i64 x.inn, .slice u1 x.wt.length f1, .slice u2 x.ours.length f2, .slice u3 x.thr.length f3], .agg #[.string y.nm, .int .i64 y.out, .int .i64 y.inn, .slice v1 y.wt.length k1, .slice v2 y.ours.length k2, .slice v3 y.thr.length k3]] W'
            fun e w' => (∃ v, e = .returned v ∧ PV (fun k => SN S (w.heap.size + 4) wc.heap.size k ∨ (W'.heap.size ≤ k ∧ k < w'.heap.size)) w' qa v) ∧ Below W'.heap.size W' w' from fun W' hw => by
          rw [← hqa]
          exact acknowledge_gen (SN S (w.heap.size + 4) wc.heap.size) x y _ _ _ _ _ _ W' (HOX.out.keep (fun _ h => h) (fun k hk => hw.block k (SN.lt HS9.out k hk))) (fun k h => Nat.lt_of_lt_of_le (SN.lt HS9.out k h) hw.size) ((parOk_all HOY.out HS9.out).step hw) (HPX.out.small (by omega) (by omega) (by omega)) (HPY.out.i64 (by omega)))
        have HC2 := Lib.hid (show ∀ W', Below wc.heap.size wc W' → Calls Tryz.prog 28 #[.agg #[.string y.nm, .int .i64 y.out, .int .i64 y.inn, .slice v1 y.wt.length k1, .slice v2 y.ours.length k2, .slice v3 y.thr.length k3], .agg #[.string x.nm, .int .i64 x.out, .int .i64 x.inn, .slice u1 x.wt.length f1, .slice u2 x.ours.length f2, .slice u3 x.thr.length f3]] W'
            fun e w' => (∃ v, e = .returned v ∧ PV (fun k => SN S (w.heap.size + 4) wc.heap.size k ∨ (W'.heap.size ≤ k ∧ k < w'.heap.size)) w' qb v) ∧ Below W'.heap.size W' w' from fun W' hw => by
          rw [← hqb]
          exact acknowledge_gen (SN S (w.heap.size + 4) wc.heap.size) y x _ _ _ _ _ _ W' (HOY.out.keep (fun _ h => h) (fun k hk => hw.block k (SN.lt HS9.out k hk))) (fun k h => Nat.lt_of_lt_of_le (SN.lt HS9.out k h) hw.size) ((parOk_all HOX.out HS9.out).step hw) (HPY.out.small (by omega) (by omega) (by omega)) (HPX.out.i64 (by omega)))
        have HW := Lib.hid (Below.refl wc.heap.size wc)
        have HQE := Lib.hid (show roundC a b bs = (qa, qb, 0) from by rw [HR.out, hqa, hqb])
        clear hqa hqb HX13 HX11 HR HPX HPY HZX HZY HXE HYE HOX HOY
        go_upto_region 8 with (fail)
        refine wp_region_E 6 (fun w' => Below wc.heap.size wc w') (by kernel_rfl) ((by (repeat (first | (with_reducible exact Below.refl _ _) | (with_reducible exact HW.out) | (with_reducible apply bl_drewN) | (with_reducible apply bl_alloc) | (with_reducible apply Below.drew))); done)) (fun hHeld => ?_)
        refine wpE_take (i := 0) (v := ?_) rfl (by kernel_rfl) (fun _ _ _ h => h) (Or.inl ⟨by kernel_rfl, ?_⟩) (by assumption) ?_
        rotate_left
        focus (intro w9 hS9; obtain ⟨z0, z1, z2, z3, z4, z5⟩ := H13.out w9 hS9; clear hS9; go_simp; (try with_reducible rfl))
        (try simp only [Act.put])
        (try simp only [List.setIfInBounds_toArray])
        (repeat (first | simp only [List.set_cons_succ] | simp only [List.set_cons_zero]))
        refine wpE_take (i := 1) (v := ?_) rfl (by kernel_rfl) (fun _ _ _ h => h) (Or.inl ⟨by kernel_rfl, ?_⟩) (by assumption) ?_
        rotate_left
        focus (intro w9 hS9; obtain ⟨z0, z1, z2, z3, z4, z5⟩ := H11.out w9 hS9; clear hS9; go_simp; (try with_reducible rfl))
        (try simp only [Act.put])
        (try simp only [List.setIfInBounds_toArray])
        (repeat (first | simp only [List.set_cons_succ] | simp only [List.set_cons_zero]))
        refine wpE_take (i := 3) (v := ?_) rfl (by kernel_rfl) (fun _ _ _ h => h) (Or.inl ⟨by kernel_rfl, ?_⟩) (by assumption) ?_
        rotate_left
        focus (intro w9 hS9; obtain ⟨z0, z1, z2, z3, z4, z5⟩ := H11.out w9 hS9; clear hS9; go_simp; (try with_reducible rfl))
        (try simp only [Act.put])
        (try simp only [List.setIfInBounds_toArray])
        (repeat (first | simp only [List.set_cons_succ] | simp only [List.set_cons_zero]))
        refine wpE_take (i := 4) (v := ?_) rfl (by kernel_rfl) (fun _ _ _ h => h) (Or.inl ⟨by kernel_rfl, ?_⟩) (by assumption) ?_
        rotate_left
        focus (intro w9 hS9; obtain ⟨z0, z1, z2, z3, z4, z5⟩ := H13.out w9 hS9; clear hS9; go_simp; (try with_reducible rfl))
        (try simp only [Act.put])
        (try simp only [List.setIfInBounds_toArray])
        (repeat (first | simp only [List.set_cons_succ] | simp only [List.set_cons_zero]))
        refine wpE_ready (rs := [2]) (by kernel_rfl) (by kernel_rfl) ?_
        refine AllReadyE.cons rfl (fun K hK => ?_) AllReadyE.nil
        rw [if_pos (show _ = true by kernel_rfl)]
        go_simp
        go_wp2_with (
          go_at_call 28
          refine (HC1.out _ (by (repeat (first | (with_reducible exact Below.refl _ _) | (with_reducible exact HW.out) | (with_reducible apply bl_drewN) | (with_reducible apply bl_alloc) | (with_reducible apply Below.drew))); done)).mono ?_
          rintro e w9 ⟨⟨v9, rfl, hv⟩, hb9⟩
          have HP1 := Lib.hid (show Below wc.heap.size wc w9 from by (refine bl_trans ?_ hb9; exact (by (repeat (first | (with_reducible exact Below.refl _ _) | (with_reducible exact HW.out) | (with_reducible apply bl_drewN) | (with_reducible apply bl_alloc) | (with_reducible apply Below.drew))); done)))
          clear HW
          have HW := HP1
          clear HP1
          obtain ⟨u1', f1', u2', f2', u3', f3', rfl, hqv⟩ := pv_form hv
          have HQA := Lib.hid hqv
          have hz9 := hb9.size
          clear hv hqv hb9)
        clear hHeld
        refine hK.out _ _ (HW.out) (fun hHeld => ?_)
        clear hK K
        refine wpE_ready (rs := [5]) (by kernel_rfl) (by kernel_rfl) ?_
        refine AllReadyE.cons rfl (fun K hK => ?_) AllReadyE.nil
        rw [if_pos (show _ = true by kernel_rfl)]
        go_simp
        go_wp2_with (
          go_at_call 28
          refine (HC2.out _ (by (repeat (first | (with_reducible exact Below.refl _ _) | (with_reducible exact HW.out) | (with_reducible apply bl_drewN) | (with_reducible apply bl_alloc) | (with_reducible apply Below.drew))); done)).mono ?_
          rintro e w10 ⟨⟨v9, rfl, hv⟩, hb9⟩
          have HP1 := Lib.hid (show Below wc.heap.size wc w10 from by (refine bl_trans ?_ hb9; exact (by (repeat (first | (with_reducible exact Below.refl _ _) | (with_reducible exact HW.out) | (with_reducible apply bl_drewN) | (with_reducible apply bl_alloc) | (with_reducible apply Below.drew))); done)))
          clear HW
          have HW := HP1
          clear HP1
          obtain ⟨g1, h1, g2, h2, g3, h3, rfl, hqv⟩ := pv_form hv
          have HQB := Lib.hid hqv
          have HS10 := Lib.hid hb9
          clear hv hqv hb9)
        clear hHeld
        refine hK.out _ _ (HW.out) (fun hHeld => ?_)
        clear hK K
        clear hHeld
        refine wpE_out (by kernel_rfl) ?_
        have HXF := Lib.hid (HX9.out.step HW.out)
        obtain ⟨c0, c1, c2, c3, c4, c5, cf'⟩ := blk6' HXF.out.ra
        obtain ⟨d0, d1, d2, d3, d4, d5, df'⟩ := blk6' HXF.out.rb
        refine wpAny_ready (rs := [6]) (by kernel_rfl) (by simp) ?_
        refine AllReady.cons rfl (fun K hK => ?_) AllReady.nil
        rw [if_pos (show _ = true by kernel_rfl)]
        go_simp
        refine hK _ _ ?_
        clear hK K
        refine wpAny_ready (rs := [7]) (by kernel_rfl) (by simp) ?_
        refine AllReady.cons rfl (fun K hK => ?_) AllReady.nil
        rw [if_pos (show _ = true by kernel_rfl)]
        go_simp
        refine hK _ _ ?_
        clear hK K
        refine wpAny_ready (rs := [8]) (by kernel_rfl) (by simp) ?_
        refine AllReady.cons rfl (fun K hK => ?_) AllReady.nil
        rw [if_pos (show _ = true by kernel_rfl)]
        go_simp
        refine hK _ _ ?_
        clear hK K
        refine wpAny_done (by kernel_rfl) ?_ _
        go_wp2_with (fail)
        have hzc : wc.heap.size ≤ w9.heap.size := hz9
        have hz10 : w9.heap.size ≤ w10.heap.size := HS10.out.size
        refine bodyPost_ret (v := .tuple #[.agg #[.string qa.nm, .int .i64 qa.out, .int .i64 qa.inn, .slice u1' qa.wt.length f1', .slice u2' qa.ours.length f2', .slice u3' qa.thr.length f3'], .agg #[.string qb.nm, .int .i64 qb.out, .int .i64 qb.inn, .slice g1 qb.wt.length h1, .slice g2 qb.ours.length h2, .slice g3 qb.thr.length h3], .int .i64 0])
          (by simp [results, Tryz.results9, go_sem, c0, c1, c2, c3, c4, c5, d0, d1, d2, d3, d4, d5]) rfl ⟨rv_mk HQE.out (HQA.out.keep (fun k hk => ?_) (fun k hk => ?_)) (HQB.out.keep (fun k hk => ?_) (fun k hk => ?_)), ?_⟩
        · rcases hk with (h | h) | h
          · exact .inl h
          · exact .inr ⟨by have := h.1; omega, by have := h.2; simp; omega⟩
          · have h1 : wc.heap.size ≤ k := h.1
            exact .inr ⟨by omega, by have := h.2; simp; omega⟩
        · have hne : k ≠ w.heap.size + 1 + 1 ∧ k ≠ w.heap.size + 1 + 1 + 1 ∧ k < w9.heap.size := by
            rcases hk with (h | h) | h
            · have := HSS.out k h; omega
            · have h1 := h.1; have h2 := h.2; omega
            · have h1 : wc.heap.size ≤ k := h.1
              have h2 := h.2
              omega
          exact (set6_ne hne.2.1).trans ((set6_ne hne.1).trans (HS10.out.block k hne.2.2))
        · rcases hk with (h | h) | h
          · exact .inl h
          · exact .inr ⟨by have := h.1; omega, by have := h.2; simp; omega⟩
          · have h1 : w9.heap.size ≤ k := h.1
            exact .inr ⟨by omega, by have := h.2; simp; omega⟩
        · have hne : k ≠ w.heap.size + 1 + 1 ∧ k ≠ w.heap.size + 1 + 1 + 1 := by
            rcases hk with (h | h) | h
            · have := HSS.out k h; omega
            · have h1 := h.1; omega
            · have h1 : w9.heap.size ≤ k := h.1
              omega
          exact (set6_ne hne.2).trans (set6_ne hne.1)
        · (repeat (first | (with_reducible exact HXF.out.bel) | (with_reducible apply bl_drewN) | (with_reducible apply bl_alloc) | ((with_reducible refine bl_set ?_ _ ?_); rotate_left; focus (first | exact Nat.le_refl _ | (simp; done) | (simp; omega)))))
end Go.Proofs.YtmjbbpappigngaaGreat
/-
  Layer 44 (recon): the walk of Reconcile.
-/
namespace Go.Proofs.YtmjbbpappigngaaGreat
open Go.RowKit Go.Tw Go.Tw.Exc
/-- two partners, a count and a number, handed back -/
def RV4 (w' : World) (e : Ending) (r : Par × Par × Int × Int) : Prop := ∃ v1 v2, e = .returned (.tuple #[v1, v2, .int .i64 r.2.2.1, .int .i64 r.2.2.2]) ∧ PV (· < w'.heap.size) w' r.1 v1 ∧ PV (· < w'.heap.size) w' r.2.1 v2
theorem rv4_mk {w' : World} {r : Par × Par × Int × Int} {p q : Par} {c n : Int} {x1 x2 x3 y1 y2 y3 : Value} (h : r = (p, q, c, n)) (hp : ParOk (· < w'.heap.size) w' p x1 x2 x3) (hq : ParOk (· < w'.heap.size) w' q y1 y2 y3) :
    RV4 w' (.returned (.tuple #[.agg #[.string p.nm, .int .i64 p.out, .int .i64 p.inn, x1, x2, x3], .agg #[.string q.nm, .int .i64 q.out, .int .i64 q.inn, y1, y2, y3], .int .i64 c, .int .i64 n])) r := by
  subst h; exact ⟨_, _, rfl, ⟨_, _, _, rfl, hp⟩, ⟨_, _, _, rfl, hq⟩⟩
/-- all blocks but the four from n on, b and b + 1 -/
def MB (n b : Nat) (wx : World) : Nat → Prop := fun k => k < wx.heap.size ∧ (k < n ∨ n + 4 ≤ k) ∧ k ≠ b ∧ k ≠ b + 1
theorem MB.up {n b : Nat} {W w : World} (h : W.heap.size ≤ w.heap.size) : ∀ k, MB n b W k → MB n b w k := fun _ hk => ⟨Nat.lt_of_lt_of_le hk.1 h, hk.2⟩
theorem MB.sn {n b : Nat} {W w : World} (hb : b + 1 < W.heap.size) (hn : n + 4 ≤ W.heap.size) (h : W.heap.size ≤ w.heap.size) : ∀ k, (MB n b W k ∨ (W.heap.size ≤ k ∧ k < w.heap.size)) → MB n b w k := fun k hk => by
  rcases hk with hk | hk
  · exact MB.up h k hk
  · exact ⟨hk.2, .inr (by omega), by omega, by omega⟩
/-- Reconcile's boxes: the four, and x, y in b and b + 1 -/
structure KB (w : World) (a b x y : Par) (a1 a2 a3 b1 b2 b3 u1 u2 u3 v1 v2 v3 : Value) (c : Nat) (wx : World) : Prop where
  rb : RB w a b a1 a2 a3 b1 b2 b3 wx
  px : wx.heap[c]? = some (.cells #[.string x.nm, .int .i64 x.out, .int .i64 x.inn, u1, u2, u3] 29 (0, 0))
  py : wx.heap[c + 1]? = some (.cells #[.string y.nm, .int .i64 y.out, .int .i64 y.inn, v1, v2, v3] 29 (0, 0))
  ox : ParOk (MB w.heap.size c wx) wx x u1 u2 u3
  oy : ParOk (MB w.heap.size c wx) wx y v1 v2 v3
theorem KB.step {w : World} {a b x y : Par} {a1 a2 a3 b1 b2 b3 u1 u2 u3 v1 v2 v3 : Value} {c : Nat} {wx wy : World} (h : KB w a b x y a1 a2 a3 b1 b2 b3 u1 u2 u3 v1 v2 v3 c wx) (hb : Below wx.heap.size wx wy) : KB w a b x y a1 a2 a3 b1 b2 b3 u1 u2 u3 v1 v2 v3 c wy :=
  ⟨h.rb.step hb, Go.Tw.Below.at_old hb h.px, Go.Tw.Below.at_old hb h.py, h.ox.keep (MB.up hb.size) (fun k hk => hb.block k hk.1), h.oy.keep (MB.up hb.size) (fun k hk => hb.block k hk.1)⟩
theorem KB.lt {w : World} {a b x y : Par} {a1 a2 a3 b1 b2 b3 u1 u2 u3 v1 v2 v3 : Value} {c : Nat} {wx : World} (h : KB w a b x y a1 a2 a3 b1 b2 b3 u1 u2 u3 v1 v2 v3 c wx) : c + 1 < wx.heap.size ∧ w.heap.size + 4 ≤ wx.heap.size := ⟨lt_of_heap h.py, by have := lt_of_heap h.rb.rb; omega⟩
theorem RB.set {w : World} {a b : Par} {a1 a2 a3 b1 b2 b3 : Value} {wx wy : World} {c : Nat} (h : RB w a b a1 a2 a3 b1 b2 b3 wx) (hk : ∀ k, k ≠ c → wy.heap[k]? = wx.heap[k]?) (hc : w.heap.size + 4 ≤ c) (hb : Below w.heap.size w wy) : RB w a b a1 a2 a3 b1 b2 b3 wy :=
  ⟨hb, (hk _ (by omega)).trans h.pa, (hk _ (by omega)).trans h.pb, (hk _ (by omega)).trans h.ra, (hk _ (by omega)).trans h.rb⟩
/-- x is written -/
theorem KB.setx {w : World} {a b x y x' : Par} {a1 a2 a3 b1 b2 b3 u1 u2 u3 v1 v2 v3 z1 z2 z3 : Value} {c : Nat} {wx : World} (h : KB w a b x y a1 a2 a3 b1 b2 b3 u1 u2 u3 v1 v2 v3 c wx) (hc : w.heap.size + 4 ≤ c) (hx : ParOk (MB w.heap.size c wx) wx x' z1 z2 z3) :
    KB w a b x' y a1 a2 a3 b1 b2 b3 z1 z2 z3 v1 v2 v3 c ((((((wx.setCell ⟨c, 0, none⟩ (.string x'.nm)).setCell ⟨c, 1, none⟩ (.int .i64 x'.out)).setCell ⟨c, 2, none⟩ (.int .i64 x'.inn)).setCell ⟨c, 3, none⟩ z1).setCell ⟨c, 4, none⟩ z2).setCell ⟨c, 5, none⟩ z3) := by
  have hl : w.heap.size ≤ c := by omega
  refine ⟨h.rb.set (fun k hk => set6_ne hk) hc (bl_set (bl_set (bl_set (bl_set (bl_set (bl_set h.rb.bel _ hl) _ hl) _ hl) _ hl) _ hl) _ hl), set6_same h.px, (set6_ne (by omega)).trans h.py, hx.keep (MB.up (by simp)) (fun k hk => set6_ne hk.2.2.1), h.oy.keep (MB.up (by simp)) (fun k hk => set6_ne hk.2.2.1)⟩
theorem KB.sety {w : World} {a b x y y' : Par} {a1 a2 a3 b1 b2 b3 u1 u2 u3 v1 v2 v3 z1 z2 z3 : Value} {c : Nat} {wx : World} (h : KB w a b x y a1 a2 a3 b1 b2 b3 u1 u2 u3 v1 v2 v3 c wx) (hc : w.heap.size + 4 ≤ c) (hy : ParOk (MB w.heap.size c wx) wx y' z1 z2 z3) :
    KB w a b x y' a1 a2 a3 b1 b2 b3 u1 u2 u3 z1 z2 z3 c ((((((wx.setCell ⟨c + 1, 0, none⟩ (.string y'.nm)).setCell ⟨c + 1, 1, none⟩ (.int .i64 y'.out)).setCell ⟨c + 1, 2, none⟩ (.int .i64 y'.inn)).setCell ⟨c + 1, 3, none⟩ z1).setCell ⟨c + 1, 4, none⟩ z2).setCell ⟨c + 1, 5, none⟩ z3) := by
  have hl : w.heap.size ≤ c + 1 := by omega
  refine ⟨h.rb.set (c := c + 1) (fun k hk => set6_ne hk) (by omega) (bl_set (bl_set (bl_set (bl_set (bl_set (bl_set h.rb.bel _ hl) _ hl) _ hl) _ hl) _ hl) _ hl), (set6_ne (by omega)).trans h.px, set6_same h.py, h.ox.keep (MB.up (by simp)) (fun k hk => set6_ne hk.2.2.2), hy.keep (MB.up (by simp)) (fun k hk => set6_ne hk.2.2.2)⟩
theorem drewKB {w : World} {a b x y : Par} {a1 a2 a3 b1 b2 b3 u1 u2 u3 v1 v2 v3 : Value} {c : Nat} {wx : World} (h : KB w a b x y a1 a2 a3 b1 b2 b3 u1 u2 u3 v1 v2 v3 c wx) : KB w a b x y a1 a2 a3 b1 b2 b3 u1 u2 u3 v1 v2 v3 c wx.drew := h.step (Below.drew (Below.refl _ _))
theorem SEs.form {S : Nat → Prop} {w w' : World} {e : Ending} {q : Par × Fil × Int} (h : SEs S w w' e q) : ∃ u1 c1 u2 c2 u3 c3 vf, e = .returned (.tuple #[.agg #[.string q.1.nm, .int .i64 q.1.out, .int .i64 q.1.inn, .slice u1 q.1.wt.length c1, .slice u2 q.1.ours.length c2, .slice u3 q.1.thr.length c3], .agg #[.string q.2.1.fr, .string q.2.1.to, .int .i64 q.2.1.sq, vf], .int .i64 q.2.2]) ∧
    ParOk (fun k => S k ∨ (w.heap.size ≤ k ∧ k < w'.heap.size)) w' q.1 (.slice u1 q.1.wt.length c1) (.slice u2 q.1.ours.length c2) (.slice u3 q.1.thr.length c3) := by
  obtain ⟨v1, v2, v3, vf, rfl, hq, -⟩ := h
  obtain ⟨u1, c1, _, _, rfl, -⟩ := id hq.wt
  obtain ⟨u2, c2, _, _, rfl, -⟩ := id hq.ours
  obtain ⟨u3, c3, _, _, rfl, -⟩ := id hq.thr
  exact ⟨_, _, _, _, _, _, _, rfl, hq⟩
theorem SEs.formR {S : Nat → Prop} {w w' : World} {e : Ending} {q : Par × Fil × Int} (h : SEs S w w' e q) : ∃ u1 c1 u2 c2 u3 c3 av cv, e = .returned (.tuple #[.agg #[.string q.1.nm, .int .i64 q.1.out, .int .i64 q.1.inn, .slice u1 q.1.wt.length c1, .slice u2 q.1.ours.length c2, .slice u3 q.1.thr.length c3], .agg #[.string q.2.1.fr, .string q.2.1.to, .int .i64 q.2.1.sq, .slice av q.2.1.rs.length cv], .int .i64 q.2.2]) ∧
    ParOk (fun k => S k ∨ (w.heap.size ≤ k ∧ k < w'.heap.size)) w' q.1 (.slice u1 q.1.wt.length c1) (.slice u2 q.1.ours.length c2) (.slice u3 q.1.thr.length c3) := by
  obtain ⟨v1, v2, v3, vf, rfl, hq, hf⟩ := h
  obtain ⟨u1, c1, _, _, rfl, -⟩ := id hq.wt
  obtain ⟨u2, c2, _, _, rfl, -⟩ := id hq.ours
  obtain ⟨u3, c3, _, _, rfl, -⟩ := id hq.thr
  obtain ⟨av, cv, _, _, rfl, -⟩ := id hf.rs
  exact ⟨_, _, _, _, _, _, _, _, rfl, hq⟩
/- the partners that came in go back, with an error: $1 the boxes (RB), $2 the error, $3 the equation -/
/- a correction is sent: $1 the contract of Correct, $2 of Send, $3 the box, $4 the other's box, $5 the number -/
set_option maxRecDepth 100000 in
set_option maxHeartbeats 8000000 in
theorem reconcile_gen (k n m : Nat) (a b : Par) (a1 a2 a3 b1 b2 b3 : Value) (w : World) (ha : ParOk (· < w.heap.size) w a a1 a2 a3) (hb : ParOk (· < w.heap.size) w b b1 b2 b3) (hsa : SzP k n m a) (hsb : SzP k n m b) (hk : k ≤ 48) (hn : n ≤ 58) (hm : m ≤ 58) :
    Calls Tryz.prog 11 #[.agg #[.string a.nm, .int .i64 a.out, .int .i64 a.inn, a1, a2, a3], .agg #[.string b.nm, .int .i64 b.out, .int .i64 b.inn, b1, b2, b3]] w
      fun e w' => RV4 w' e (reconC a b) ∧ Below w.heap.size w w' := by
  have HA := Lib.hid ha
  have HB := Lib.hid hb
  have HSA := Lib.hid hsa
  have HSB := Lib.hid hsb
  have HZR := Lib.hid (hsa.round hsb [])
  obtain ⟨x1, y1, _, _, rfl, -⟩ := id ha.wt
  obtain ⟨x2, y2, _, _, rfl, -⟩ := id ha.ours
  obtain ⟨x3, y3, _, _, rfl, -⟩ := id ha.thr
  obtain ⟨z1, e1, _, _, rfl, -⟩ := id hb.wt
  obtain ⟨z2, e2, _, _, rfl, -⟩ := id hb.ours
  obtain ⟨z3, e3, _, _, rfl, -⟩ := id hb.thr
  have HNM := Lib.hid (And.intro ha.nm hb.nm)
  clear ha hb hsa hsb
  go_enter Tryz.func11, Tryz.ntmps11
  go_wp2_with (fail)
  have HB0 := Lib.hid (show Below w.heap.size w ((((w.alloc (.cells #[.string a.nm, .int .i64 a.out, .int .i64 a.inn, .slice x1 a.wt.length y1, .slice x2 a.ours.length y2, .slice x3 a.thr.length y3] 29)).alloc (.cells #[.string b.nm, .int .i64 b.out, .int .i64 b.inn, .slice z1 b.wt.length e1, .slice z2 b.ours.length e2, .slice z3 b.thr.length e3] 29)).alloc (.cells #[.string ⟨#[]⟩, .int .i64 0, .int .i64 0, .slice none 0 0, .slice none 0 0, .slice none 0 0] 29)).alloc (.cells #[.string ⟨#[]⟩, .int .i64 0, .int .i64 0, .slice none 0 0, .slice none 0 0, .slice none 0 0] 29)) from bl_alloc (bl_alloc (bl_alloc (bl_alloc (Below.refl _ _) _) _) _) _)
  refine (round_gen (· < w.heap.size) k n m a b [] _ _ _ _ _ _ (.slice none 0 0) _ (HA.out.keep (fun _ h => h) (fun k hk => HB0.out.block k hk)) (HB.out.keep (fun _ h => h) (fun k hk => HB0.out.block k hk)) (fun k hk => Nat.lt_of_lt_of_le hk HB0.out.size) SlIs.nil HSA.out HSB.out (by omega) (by omega)).mono ?_
  rintro e w5 ⟨he, hb5⟩
  obtain ⟨u1, c1, u2, c2, u3, c3, g1, h1, g2, h2, g3, h3, rfl, hq1, hq2⟩ := rv_form he
  obtain ⟨x, y, er, hr⟩ : ∃ x y er, roundC a b [] = (x, y, er) := ⟨_, _, _, rfl⟩
  rw [hr] at hq1 hq2 HZR ⊢
  dsimp only at hq1 hq2 ⊢
  have HRE := Lib.hid hr
  have hz5 : w.heap.size + 4 ≤ w5.heap.size := by have := hb5.size; simpa using this
  have HRB := Lib.hid (show RB w a b (.slice x1 a.wt.length y1) (.slice x2 a.ours.length y2) (.slice x3 a.thr.length y3) (.slice z1 b.wt.length e1) (.slice z2 b.ours.length e2) (.slice z3 b.thr.length e3) w5 from
    ⟨bl_trans HB0.out hb5, Go.Tw.Below.at_old hb5 (alloc4_0 w _ _ _ _), Go.Tw.Below.at_old hb5 (alloc4_1 w _ _ _ _), Go.Tw.Below.at_old hb5 (alloc4_2 w _ _ _ _), Go.Tw.Below.at_old hb5 (alloc4_3 w _ _ _ _)⟩)
  obtain ⟨wq, hwq⟩ : ∃ wq, (w5.alloc (.cells #[.string x.nm, .int .i64 x.out, .int .i64 x.inn, .slice u1 x.wt.length c1, .slice u2 x.ours.length c2, .slice u3 x.thr.length c3] 29)).alloc (.cells #[.string y.nm, .int .i64 y.out, .int .i64 y.inn, .slice g1 y.wt.length h1, .slice g2 y.ours.length h2, .slice g3 y.thr.length h3] 29) = wq := ⟨_, rfl⟩
  obtain ⟨b8, hb8⟩ : ∃ k, w5.heap.size = k := ⟨_, rfl⟩
  have HKB := Lib.hid (show KB w a b x y (.slice x1 a.wt.length y1) (.slice x2 a.ours.length y2) (.slice x3 a.thr.length y3) (.slice z1 b.wt.length e1) (.slice z2 b.ours.length e2) (.slice z3 b.thr.length e3) (.slice u1 x.wt.length c1) (.slice u2 x.ours.length c2) (.slice u3 x.thr.length c3) (.slice g1 y.wt.length h1) (.slice g2 y.ours.length h2) (.slice g3 y.thr.length h3) b8 wq from by
    have hbq : Below w5.heap.size w5 wq := by rw [← hwq]; exact bl_alloc (bl_alloc (Below.refl _ _) _) _
    have hsz : wq.heap.size = b8 + 2 := by rw [← hwq, ← hb8]; simp
    have hkk : ∀ k, SN (· < w.heap.size) (w.heap.size + 4) w5.heap.size k → MB w.heap.size b8 wq k := fun k hk => by
      rcases hk with hk | hk
      · exact ⟨by omega, .inl hk, by omega, by omega⟩
      · exact ⟨by omega, .inr hk.1, by omega, by omega⟩
    have hq1' := hq1.keep (S' := SN (· < w.heap.size) (w.heap.size + 4) w5.heap.size) (fun k hk => by
      rcases hk with hk | hk
      · exact .inl hk
      · exact .inr ⟨by have := hk.1; simpa using this, hk.2⟩) (SameOn.refl _ _)
    have hq2' := hq2.keep (S' := SN (· < w.heap.size) (w.heap.size + 4) w5.heap.size) (fun k hk => by
      rcases hk with hk | hk
      · exact .inl hk
      · exact .inr ⟨by have := hk.1; simpa using this, hk.2⟩) (SameOn.refl _ _)
    refine ⟨HRB.out.step hbq, by rw [← hwq, ← hb8]; exact alloc2_0 w5 _ _, by rw [← hwq, ← hb8]; exact alloc2_1 w5 _ _, hq1'.keep hkk (fun k hk => hbq.block k ?_), hq2'.keep hkk (fun k hk => hbq.block k ?_)⟩
    · rcases hk with hk | hk
      · omega
      · exact hk.2
    · rcases hk with hk | hk
      · omega
      · exact hk.2)
  clear hq1 hq2 he hr hb5 HRB HB0
  by_cases q1 : er ≠ 0
  · have q1' : (er != 0) = true := by simpa using q1
    have HR := Lib.hid (show reconC a b = (a, b, 0, er) from by unfold reconC rec1; rw [HRE.out, if_pos q1])
    clear q1
    go_upto_region 3 with (fail)
    (try rw [hwq])
    have HRB := Lib.hid HKB.out.rb
    clear hwq HKB
    have hne1 : w.heap.size ≠ w.heap.size + 1 + 1 ∧ w.heap.size ≠ w.heap.size + 1 + 1 + 1 := by omega
    have hne2 : w.heap.size + 1 ≠ w.heap.size + 1 + 1 ∧ w.heap.size + 1 ≠ w.heap.size + 1 + 1 + 1 := by omega
    have HXA := Lib.hid (box6X HRB.out.pa hne1.1 hne1.2)
    have HXB := Lib.hid (box6X HRB.out.pb hne2.1 hne2.2)
    clear hne1 hne2
    refine wp_region_D (fun j => if j < 7 then 0 else if j < 7 then 1 else 2) (fun w' => KeepX (w.heap.size + 1 + 1) (w.heap.size + 1 + 1 + 1) _ w') (by kernel_rfl) (KeepX.drew (KeepX.refl _ _ _)) (fun hHeld => ?_)
    refine wpD_take (i := 0) (v := ?_) rfl (by kernel_rfl) (fun _ _ _ h => h) (Or.inl ⟨by kernel_rfl, ?_⟩) (by assumption) ?_
    rotate_left
    focus (intro w9 hS9; obtain ⟨z0, z1, z2, z3, z4, z5⟩ := HXA.out w9 hS9; clear hS9; go_simp; (try with_reducible rfl))
    (try simp only [Act.put])
    (try simp only [List.setIfInBounds_toArray])
    (repeat (first | simp only [List.set_cons_succ] | simp only [List.set_cons_zero]))
    refine wpD_take (i := 1) (v := ?_) rfl (by kernel_rfl) (fun _ _ _ h => h) (Or.inl ⟨by kernel_rfl, ?_⟩) (by assumption) ?_
    rotate_left
    focus (intro w9 hS9; obtain ⟨z0, z1, z2, z3, z4, z5⟩ := HXB.out w9 hS9; clear hS9; go_simp; (try with_reducible rfl))
    (try simp only [Act.put])
    (try simp only [List.setIfInBounds_toArray])
    (repeat (first | simp only [List.set_cons_succ] | simp only [List.set_cons_zero]))
    refine wpD_take (i := 2) (v := ?_) rfl (by kernel_rfl) (fun _ _ _ h => h) (Or.inl ⟨by kernel_rfl, ?_⟩) (by assumption) ?_
    rotate_left
    focus (intro w9 hS9; (try dsimp only at hS9); go_simp; (try with_reducible rfl))
    (try simp only [Act.put])
    (try simp only [List.setIfInBounds_toArray])
    (repeat (first | simp only [List.set_cons_succ] | simp only [List.set_cons_zero]))
    obtain ⟨s0, s1, s2, s3, s4, s5, sf⟩ := blk6' HRB.out.ra
    obtain ⟨t0, t1, t2, t3, t4, t5, tf⟩ := blk6' HRB.out.rb
    refine wpD_ready (rs := [3]) (by kernel_rfl) (by kernel_rfl) ?_
    refine AllReadyD.cons rfl (fun K hK => ?_) AllReadyD.nil
    rw [if_pos (show _ = true by kernel_rfl)]
    go_simp
    clear hHeld
    refine hK.out _ _ ⟨fun _ => (by with_reducible exact KeepX.drew (KeepX.set6 (KeepX.refl _ _ _) (.inl rfl))), fun h => absurd h (by decide)⟩ (fun hHeld0 => ?_)
    have hHeld := hHeld0.1 rfl
    clear hHeld0 hK K
    refine wpD_ready (rs := [4]) (by kernel_rfl) (by kernel_rfl) ?_
    refine AllReadyD.cons rfl (fun K hK => ?_) AllReadyD.nil
    rw [if_pos (show _ = true by kernel_rfl)]
    go_simp
    clear hHeld
    refine hK.out _ _ ⟨fun _ => (by with_reducible exact KeepX.drew (KeepX.set6 (KeepX.set6 (KeepX.refl _ _ _) (.inl rfl)) (.inr rfl))), fun h => absurd h (by decide)⟩ (fun hHeld0 => ?_)
    have hHeld := hHeld0.1 rfl
    clear hHeld0 hK K
    refine wpD_ready (rs := [5]) (by kernel_rfl) (by kernel_rfl) ?_
    refine AllReadyD.cons rfl (fun K hK => ?_) AllReadyD.nil
    rw [if_pos (show _ = true by kernel_rfl)]
    go_simp
    clear hHeld
    refine hK.out _ _ ⟨fun _ => (by with_reducible exact KeepX.drew (KeepX.set6 (KeepX.set6 (KeepX.refl _ _ _) (.inl rfl)) (.inr rfl))), fun h => absurd h (by decide)⟩ (fun hHeld0 => ?_)
    have hHeld := hHeld0.1 rfl
    clear hHeld0 hK K
    refine wpD_ready (rs := [6]) (by kernel_rfl) (by kernel_rfl) ?_
    refine AllReadyD.cons rfl (fun K hK => ?_) AllReadyD.nil
    rw [if_pos (show _ = true by kernel_rfl)]
    go_simp
    clear hHeld
    refine hK.out _ _ ⟨fun _ => (by with_reducible exact KeepX.drew (KeepX.set6 (KeepX.set6 (KeepX.refl _ _ _) (.inl rfl)) (.inr rfl))), fun h => absurd h (by decide)⟩ (fun hHeld0 => ?_)
    have hHeld := hHeld0.1 rfl
    clear hHeld0 hK K
    refine wpD_done (by kernel_rfl) ?_
    go_wp2_with (fail)
    have h2 : w.heap.size ≤ w.heap.size + 1 + 1 := by omega
    have h3 : w.heap.size ≤ w.heap.size + 1 + 1 + 1 := by omega
    refine bodyPost_ret (v := .tuple #[.agg #[.string a.nm, .int .i64 a.out, .int .i64 a.inn, .slice x1 a.wt.length y1, .slice x2 a.ours.length y2, .slice x3 a.thr.length y3], .agg #[.string b.nm, .int .i64 b.out, .int .i64 b.inn, .slice z1 b.wt.length e1, .slice z2 b.ours.length e2, .slice z3 b.thr.length e3], .int .i64 0, .int .i64 er])
      (by simp [results, Tryz.results11, go_sem, s0, s1, s2, s3, s4, s5, t0, t1, t2, t3, t4, t5]) rfl ?_
    refine And.intro ?_ ?_
    · refine rv4_mk HR.out ?_ ?_
      · refine HA.out.keep (fun k hk => ?_) (fun k hk => ?_)
        · refine Nat.lt_of_lt_of_le hk (Below.size (B := w.heap.size) (w := w) ?_)
          with_reducible exact Below.drew (bl_set6 (bl_set6 HRB.out.bel h2) h3)
        · refine KeepX.at (w := _) (x := w.heap.size + 1 + 1) (y := w.heap.size + 1 + 1 + 1) ?_ HRB.out.bel hk h2 h3
          with_reducible exact KeepX.drew (KeepX.set6 (KeepX.set6 (KeepX.refl _ _ _) (.inl rfl)) (.inr rfl))
      · refine HB.out.keep (fun k hk => ?_) (fun k hk => ?_)
        · refine Nat.lt_of_lt_of_le hk (Below.size (B := w.heap.size) (w := w) ?_)
          with_reducible exact Below.drew (bl_set6 (bl_set6 HRB.out.bel h2) h3)
        · refine KeepX.at (w := _) (x := w.heap.size + 1 + 1) (y := w.heap.size + 1 + 1 + 1) ?_ HRB.out.bel hk h2 h3
          with_reducible exact KeepX.drew (KeepX.set6 (KeepX.set6 (KeepX.refl _ _ _) (.inl rfl)) (.inr rfl))
    · with_reducible exact Below.drew (bl_set6 (bl_set6 HRB.out.bel h2) h3)
  · obtain rfl : er = 0 := by omega
    have q1' : ((0 : Int) != 0) = false := by decide
    clear q1
    have HZX := Lib.hid (show SzP k n (m + k) x from HZR.out.1)
    have HZY := Lib.hid (show SzP k n (m + k) y from HZR.out.2)
    obtain ⟨L1, hL1⟩ : ∃ L, differC x.ours y.thr = L := ⟨_, rfl⟩
    obtain ⟨L2, hL2⟩ : ∃ L, differC y.ours x.thr = L := ⟨_, rfl⟩
    have hc8 : w.heap.size + 4 ≤ b8 := by omega
    have hl1 : L1.length ≤ 164 := by have := differ_length x.ours y.thr; rw [hL1] at this; have h1 := HZX.out.ours; have h2 := HZY.out.thr; omega
    have hl2 : L2.length ≤ 164 := by have := differ_length y.ours x.thr; rw [hL2] at this; have h1 := HZY.out.ours; have h2 := HZX.out.thr; omega
    have HRC := Lib.hid (show reconC a b = rec2 a b ((L1.length : Int) + (L2.length : Int)) (fixC x b.nm L1) (fixC y a.nm L2) from by
      unfold reconC rec1
      rw [HRE.out, if_neg (by simp)]
      show rec2 a b (((differC x.ours y.thr).length : Int) + ((differC y.ours x.thr).length : Int)) (fixC x b.nm (differC x.ours y.thr)) (fixC y a.nm (differC y.ours x.thr)) = _
      rw [hL1, hL2])
    have hall : ∀ k, MB w.heap.size b8 wq k → k < wq.heap.size := fun k hk => hk.1
    have HD1 := Lib.hid (show ∀ W', Below wq.heap.size wq W' → Calls Tryz.prog 22 #[.agg #[.string x.nm, .int .i64 x.out, .int .i64 x.inn, .slice u1 x.wt.length c1, .slice u2 x.ours.length c2, .slice u3 x.thr.length c3], .agg #[.string y.nm, .int .i64 y.out, .int .i64 y.inn, .slice g1 y.wt.length h1, .slice g2 y.ours.length h2, .slice g3 y.thr.length h3]] W'
        fun e w' => (∃ v', e = .returned v' ∧ OwnSl tDif 63 W'.heap.size w' v' L1) ∧ Below W'.heap.size W' w' from fun W' hW => by
      rw [← hL1]
      exact differ_any x y _ _ _ _ _ _ W' ((HKB.out.ox.keep hall (SameOn.refl _ _)).step hW) ((HKB.out.oy.keep hall (SameOn.refl _ _)).step hW) (HZX.out.so (by omega)) (HZY.out.st (by omega)))
    have HD2 := Lib.hid (show ∀ W', Below wq.heap.size wq W' → Calls Tryz.prog 22 #[.agg #[.string y.nm, .int .i64 y.out, .int .i64 y.inn, .slice g1 y.wt.length h1, .slice g2 y.ours.length h2, .slice g3 y.thr.length h3], .agg #[.string x.nm, .int .i64 x.out, .int .i64 x.inn, .slice u1 x.wt.length c1, .slice u2 x.ours.length c2, .slice u3 x.thr.length c3]] W'
        fun e w' => (∃ v', e = .returned v' ∧ OwnSl tDif 63 W'.heap.size w' v' L2) ∧ Below W'.heap.size W' w' from fun W' hW => by
      rw [← hL2]
      exact differ_any y x _ _ _ _ _ _ W' ((HKB.out.oy.keep hall (SameOn.refl _ _)).step hW) ((HKB.out.ox.keep hall (SameOn.refl _ _)).step hW) (HZY.out.so (by omega)) (HZX.out.st (by omega)))
    clear hL1 hL2 hall HZR HRE
    go_upto_region 4 with (fail)
    (try rw [hwq])
    clear hwq hb8
    have HX8 := Lib.hid (box6D HKB.out.px)
    have HX9 := Lib.hid (box6D HKB.out.py)
    have HW := Lib.hid (Below.refl wq.heap.size wq)
    refine wp_region_E 6 (fun w' => Below wq.heap.size wq w') (by kernel_rfl) ((by (repeat (first | (with_reducible exact Below.refl _ _) | (with_reducible exact HW.out) | (with_reducible apply bl_drewN) | (with_reducible apply bl_alloc) | (with_reducible apply Below.drew))); done)) (fun hHeld => ?_)
    refine wpE_take (i := 0) (v := ?_) rfl (by kernel_rfl) (fun _ _ _ h => h) (Or.inl ⟨by kernel_rfl, ?_⟩) (by assumption) ?_
    rotate_left
    focus (intro w9 hS9; obtain ⟨z0, z1, z2, z3, z4, z5⟩ := HX8.out w9 hS9; clear hS9; go_simp; (try with_reducible rfl))
    (try simp only [Act.put])
    (try simp only [List.setIfInBounds_toArray])
    (repeat (first | simp only [List.set_cons_succ] | simp only [List.set_cons_zero]))
    refine wpE_take (i := 1) (v := ?_) rfl (by kernel_rfl) (fun _ _ _ h => h) (Or.inl ⟨by kernel_rfl, ?_⟩) (by assumption) ?_
    rotate_left
    focus (intro w9 hS9; obtain ⟨z0, z1, z2, z3, z4, z5⟩ := HX9.out w9 hS9; clear hS9; go_simp; (try with_reducible rfl))
    (try simp only [Act.put])
    (try simp only [List.setIfInBounds_toArray])
    (repeat (first | simp only [List.set_cons_succ] | simp only [List.set_cons_zero]))
    refine wpE_take (i := 3) (v := ?_) rfl (by kernel_rfl) (fun _ _ _ h => h) (Or.inl ⟨by kernel_rfl, ?_⟩) (by assumption) ?_
    rotate_left
    focus (intro w9 hS9; obtain ⟨z0, z1, z2, z3, z4, z5⟩ := HX9.out w9 hS9; clear hS9; go_simp; (try with_reducible rfl))
    (try simp only [Act.put])
    (try simp only [List.setIfInBounds_toArray])
    (repeat (first | simp only [List.set_cons_succ] | simp only [List.set_cons_zero]))
    refine wpE_take (i := 4) (v := ?_) rfl (by kernel_rfl) (fun _ _ _ h => h) (Or.inl ⟨by kernel_rfl, ?_⟩) (by assumption) ?_
    rotate_left
    focus (intro w9 hS9; obtain ⟨z0, z1, z2, z3, z4, z5⟩ := HX8.out w9 hS9; clear hS9; go_simp; (try with_reducible rfl))
    (try simp only [Act.put])
    (try simp only [List.setIfInBounds_toArray])
    (repeat (first | simp only [List.set_cons_succ] | simp only [List.set_cons_zero]))
    refine wpE_ready (rs := [2]) (by kernel_rfl) (by kernel_rfl) ?_
    refine AllReadyE.cons rfl (fun K hK => ?_) AllReadyE.nil
    rw [if_pos (show _ = true by kernel_rfl)]
    go_simp
    go_wp2_with (
      go_at_call 22
      refine (HD1.out _ (by (repeat (first | (with_reducible exact Below.refl _ _) | (with_reducible exact HW.out) | (with_reducible apply bl_drewN) | (with_reducible apply bl_alloc) | (with_reducible apply Below.drew))); done)).mono ?_
      rintro e w6 ⟨⟨v9, rfl, ho9⟩, hb9⟩
      obtain ⟨d1, k1, rfl, -, -⟩ := ho9.form
      have HO1 := Lib.hid ho9
      have HP1 := Lib.hid (show Below wq.heap.size wq w6 from by (refine bl_trans ?_ hb9; exact (by (repeat (first | (with_reducible exact Below.refl _ _) | (with_reducible exact HW.out) | (with_reducible apply bl_drewN) | (with_reducible apply bl_alloc) | (with_reducible apply Below.drew))); done)))
      have HS9 := Lib.hid hb9
      have hw6q := HP1.out.size
      clear HW hb9 ho9
      have HW := HP1
      clear HP1)
    clear hHeld
    refine hK.out _ _ (HW.out) (fun hHeld => ?_)
    clear hK K
    clear HS9
    refine wpE_ready (rs := [5]) (by kernel_rfl) (by kernel_rfl) ?_
    refine AllReadyE.cons rfl (fun K hK => ?_) AllReadyE.nil
    rw [if_pos (show _ = true by kernel_rfl)]
    go_simp
    go_wp2_with (
      go_at_call 22
      refine (HD2.out _ (by (repeat (first | (with_reducible exact Below.refl _ _) | (with_reducible exact HW.out) | (with_reducible apply bl_drewN) | (with_reducible apply bl_alloc) | (with_reducible apply Below.drew))); done)).mono ?_
      rintro e w7 ⟨⟨v9, rfl, ho9⟩, hb9⟩
      obtain ⟨d2, k2, rfl, -, -⟩ := ho9.form
      have HO2 := Lib.hid ho9
      have HP1 := Lib.hid (show Below wq.heap.size wq w7 from by (refine bl_trans ?_ hb9; exact (by (repeat (first | (with_reducible exact Below.refl _ _) | (with_reducible exact HW.out) | (with_reducible apply bl_drewN) | (with_reducible apply bl_alloc) | (with_reducible apply Below.drew))); done)))
      have HS9 := Lib.hid hb9
      have hw7q := HP1.out.size
      clear HW hb9 ho9
      have HW := HP1
      clear HP1)
    clear hHeld
    refine hK.out _ _ (HW.out) (fun hHeld => ?_)
    clear hK K
    clear hHeld
    refine wpE_out (by kernel_rfl) ?_
    refine wpAny_ready (rs := [6]) (by kernel_rfl) (by simp) ?_
    refine AllReady.cons rfl (fun K hK => ?_) AllReady.nil
    rw [if_pos (show _ = true by kernel_rfl)]
    go_simp
    refine hK _ _ ?_
    clear hK K
    refine wpAny_ready (rs := [7]) (by kernel_rfl) (by simp) ?_
    refine AllReady.cons rfl (fun K hK => ?_) AllReady.nil
    rw [if_pos (show _ = true by kernel_rfl)]
    go_simp
    refine hK _ _ ?_
    clear hK K
    refine wpAny_done (by kernel_rfl) ?_ _
    have HK7 := Lib.hid (HKB.out.step HW.out)
    have hbq := HKB.out.lt
    have HE1 := Lib.hid (show SlIs tDif (· < w7.heap.size) w7 (.slice d1 L1.length k1) L1 from (HO1.out.below HS9.out).sl)
    have HE2 := Lib.hid (show SlIs tDif (MB w.heap.size b8 w7) w7 (.slice d2 L2.length k2) L2 from (HO2.out.fresh flatDif).keep (fun k hk => by
      have h1 : w6.heap.size ≤ k := hk.1
      have h2 := hw6q
      exact ⟨hk.2, .inr (by omega), by omega, by omega⟩) (SameOn.refl _ _))
    clear HX8 HX9 HW HD1 HD2 HKB HO1 HO2 HS9 hbq
    have hx8 : ∀ k, MB w.heap.size b8 w7 k → k < w7.heap.size := fun k hk => hk.1
    go_upto_if 33 with (fail)
    go_cut [10] (fun v10 wx => ∃ (x' : Par) (p1 p2 p3 : Option Addr) (s1 s2 s3 : Nat), v10 = .int .i64 0 ∧ fixC x b.nm L1 = (x', 0) ∧ KB w a b x' y (.slice x1 a.wt.length y1) (.slice x2 a.ours.length y2) (.slice x3 a.thr.length y3) (.slice z1 b.wt.length e1) (.slice z2 b.ours.length e2) (.slice z3 b.thr.length e3) (.slice p1 x'.wt.length s1) (.slice p2 x'.ours.length s2) (.slice p3 x'.thr.length s3) (.slice g1 y.wt.length h1) (.slice g2 y.ours.length h2) (.slice g3 y.thr.length h3) b8 wx ∧ SlIs tDif (MB w.heap.size b8 wx) wx (.slice d2 L2.length k2) L2)
    case first =>
      by_cases q2 : L1.length = 0
      · have q2' : ¬ (0 : Int) < (L1.length : Int) := by omega
        have HF := Lib.hid (show fixC x b.nm L1 = (x, 0) from by unfold fixC; rw [if_pos q2])
        clear q2
        go_wp2_with (fail)
        go_meet
        exact ⟨x, _, _, _, _, _, _, rfl, HF.out, HK7.out, HE2.out⟩
      · have q2' : (0 : Int) < (L1.length : Int) := by omega
        obtain ⟨xp, fp, er2, hse⟩ : ∃ xp fp er2, sendC x b.nm (correctC L1) = (xp, fp, er2) := ⟨_, _, _, rfl⟩
        have HF := Lib.hid (show fixC x b.nm L1 = (xp, er2) from by unfold fixC; rw [if_neg q2, hse])
        have HX8 := Lib.hid (box6D HK7.out.px)
        have HXB := Lib.hid (box6D HK7.out.rb.pb)
        have HCC := Lib.hid (show ∀ W', Below w7.heap.size w7 W' → Calls Tryz.prog 23 #[.slice d1 L1.length k1] W' fun e w' => (∃ v', e = .returned v' ∧ OwnSl tRec 49 W'.heap.size w' v' (correctC L1)) ∧ Below W'.heap.size W' w' from fun W' hW => correct_any L1 _ W' (HE1.out.step hW) (by omega))
        have HSD := Lib.hid (show ∀ W' vc, Below w7.heap.size w7 W' → SlIs tRec (· < W'.heap.size) W' vc (correctC L1) → Calls Tryz.prog 32 #[.agg #[.string x.nm, .int .i64 x.out, .int .i64 x.inn, .slice u1 x.wt.length c1, .slice u2 x.ours.length c2, .slice u3 x.thr.length c3], .string b.nm, vc] W'
            fun e w' => (∃ p1 s1 p2 s2 p3 s3 vf, e = .returned (.tuple #[.agg #[.string xp.nm, .int .i64 xp.out, .int .i64 xp.inn, .slice p1 xp.wt.length s1, .slice p2 xp.ours.length s2, .slice p3 xp.thr.length s3], .agg #[.string fp.fr, .string fp.to, .int .i64 fp.sq, vf], .int .i64 er2]) ∧
              ParOk (MB w.heap.size b8 w') w' xp (.slice p1 xp.wt.length s1) (.slice p2 xp.ours.length s2) (.slice p3 xp.thr.length s3)) ∧ Below W'.heap.size W' w' from fun W' vc hW hvc => by
          refine (send_gen (MB w.heap.size b8 w7) x b.nm (correctC L1) _ _ _ vc W' (HK7.out.ox.keep (fun _ h => h) (fun k hk => hW.block k hk.1)) (fun k hk => Nat.lt_of_lt_of_le hk.1 hW.size) (HZX.out.small (by omega) (by omega) (by omega)) HNM.out.2 hvc).mono ?_
          rintro e w' ⟨he, hb'⟩
          obtain ⟨p1, s1, p2, s2, p3, s3, vf, rfl, hq⟩ := he.form
          rw [hse] at hq ⊢
          have hlt := HK7.out.lt
          have hws := hW.size
          exact ⟨⟨p1, s1, p2, s2, p3, s3, vf, rfl, hq.keep (fun k hk => by
            rcases hk with hk | hk
            · exact MB.up (Nat.le_trans hws hb'.size) k hk
            · exact ⟨hk.2, .inr (by omega), by omega, by omega⟩) (SameOn.refl _ _)⟩, hb'⟩)
        have HW := Lib.hid (Below.refl w7.heap.size w7)
        clear q2 hse
        go_upto_region 6 with (fail)
        refine wp_region_D (fun j => if j < 8 then 0 else if j < 10 then 1 else 2) (fun w' => Below w7.heap.size w7 w') (by kernel_rfl) ((by (repeat (first | (with_reducible exact Below.refl _ _) | (with_reducible exact HW.out) | (with_reducible apply bl_drewN) | (with_reducible apply bl_alloc) | (with_reducible apply Below.drew))); done)) (fun hHeld => ?_)
        refine wpD_take (i := 0) (v := ?_) rfl (by kernel_rfl) (fun _ _ _ h => h) (Or.inl ⟨by kernel_rfl, ?_⟩) (by assumption) ?_
        rotate_left
        focus (intro w9 hS9; obtain ⟨z0, z1, z2, z3, z4, z5⟩ := HX8.out w9 hS9; clear hS9; go_simp; (try with_reducible rfl))
        (try simp only [Act.put])
        (try simp only [List.setIfInBounds_toArray])
        (repeat (first | simp only [List.set_cons_succ] | simp only [List.set_cons_zero]))
        refine wpD_take (i := 1) (v := ?_) rfl (by kernel_rfl) (fun _ _ _ h => h) (Or.inl ⟨by kernel_rfl, ?_⟩) (by assumption) ?_
        rotate_left
        focus (intro w9 hS9; (try dsimp only at hS9); go_simp; (try with_reducible rfl))
        (try simp only [Act.put])
        (try simp only [List.setIfInBounds_toArray])
        (repeat (first | simp only [List.set_cons_succ] | simp only [List.set_cons_zero]))
        refine wpD_take (i := 2) (v := ?_) rfl (by kernel_rfl) (fun _ _ _ h => h) (Or.inl ⟨by kernel_rfl, ?_⟩) (by assumption) ?_
        rotate_left
        focus (intro w9 hS9; obtain ⟨z0, z1, z2, z3, z4, z5⟩ := HXB.out w9 hS9; clear hS9; go_simp; (try with_reducible rfl))
        (try simp only [Act.put])
        (try simp only [List.setIfInBounds_toArray])
        (repeat (first | simp only [List.set_cons_succ] | simp only [List.set_cons_zero]))
        refine wpD_take (i := 3) (v := ?_) rfl (by kernel_rfl) (fun _ _ _ h => h) (Or.inl ⟨by kernel_rfl, ?_⟩) (by assumption) ?_
        rotate_left
        focus (intro w9 hS9; (try dsimp only at hS9); go_simp; (try with_reducible rfl))
        (try simp only [Act.put])
        (try simp only [List.setIfInBounds_toArray])
        (repeat (first | simp only [List.set_cons_succ] | simp only [List.set_cons_zero]))
        refine wpD_ready (rs := [4]) (by kernel_rfl) (by kernel_rfl) ?_
        refine AllReadyD.cons rfl (fun K hK => ?_) AllReadyD.nil
        rw [if_pos (show _ = true by kernel_rfl)]
        go_simp
        go_wp2_with (
          go_at_call 23
          refine (HCC.out _ (by (repeat (first | (with_reducible exact Below.refl _ _) | (with_reducible exact HW.out) | (with_reducible apply bl_drewN) | (with_reducible apply bl_alloc) | (with_reducible apply Below.drew))); done)).mono ?_
          rintro e w8 ⟨⟨vc, rfl, hvc⟩, hb9⟩
          obtain ⟨a8, c8, rfl, -, -⟩ := hvc.form
          have HVC := Lib.hid hvc.sl
          have HP1 := Lib.hid (show Below w7.heap.size w7 w8 from by (refine bl_trans ?_ hb9; exact (by (repeat (first | (with_reducible exact Below.refl _ _) | (with_reducible exact HW.out) | (with_reducible apply bl_drewN) | (with_reducible apply bl_alloc) | (with_reducible apply Below.drew))); done)))
          clear HW hb9 hvc
          have HW := HP1
          clear HP1)
        clear hHeld
        refine hK.out _ _ ⟨fun _ => HW.out, fun h => absurd h (by decide)⟩ (fun hHeld0 => ?_)
        have hHeld := hHeld0.1 rfl
        clear hHeld0 hK K
        refine wpD_ready (rs := [5]) (by kernel_rfl) (by kernel_rfl) ?_
        refine AllReadyD.cons rfl (fun K hK => ?_) AllReadyD.nil
        rw [if_pos (show _ = true by kernel_rfl)]
        go_simp
        go_wp2_with (
          go_at_call 32
          refine (HSD.out _ _ (by (repeat (first | (with_reducible exact Below.refl _ _) | (with_reducible exact HW.out) | (with_reducible apply bl_drewN) | (with_reducible apply bl_alloc) | (with_reducible apply Below.drew))); done) (HVC.out.step (show Below w8.heap.size w8 _ from by (repeat (first | (with_reducible exact Below.refl _ _) | (with_reducible apply bl_drewN) | (with_reducible apply Below.drew)))))).mono ?_
          rintro e w9 ⟨⟨p1, s1, p2, s2, p3, s3, vf, rfl, hq9⟩, hb9⟩
          have HQ9 := Lib.hid hq9
          have HP1 := Lib.hid (show Below w7.heap.size w7 w9 from by (refine bl_trans ?_ hb9; exact (by (repeat (first | (with_reducible exact Below.refl _ _) | (with_reducible exact HW.out) | (with_reducible apply bl_drewN) | (with_reducible apply bl_alloc) | (with_reducible apply Below.drew))); done)))
          clear HW hb9 hq9
          have HW := HP1
          clear HP1)
        clear hHeld
        refine hK.out _ _ ⟨fun _ => HW.out, fun h => absurd h (by decide)⟩ (fun hHeld0 => ?_)
        have hHeld := hHeld0.1 rfl
        clear hHeld0 hK K
        refine wpD_take (i := 6) (v := ?_) rfl (by kernel_rfl) (fun _ _ _ h => h) (Or.inl ⟨by kernel_rfl, ?_⟩) (by assumption) ?_
        rotate_left
        focus (intro w9 hS9; (try dsimp only at hS9); go_simp; (try with_reducible rfl))
        (try simp only [Act.put])
        (try simp only [List.setIfInBounds_toArray])
        (repeat (first | simp only [List.set_cons_succ] | simp only [List.set_cons_zero]))
        refine wpD_take (i := 7) (v := ?_) rfl (by kernel_rfl) (fun _ _ _ h => h) (Or.inl ⟨by kernel_rfl, ?_⟩) (by assumption) ?_
        rotate_left
        focus (intro w9 hS9; (try dsimp only at hS9); go_simp; (try with_reducible rfl))
        (try simp only [Act.put])
        (try simp only [List.setIfInBounds_toArray])
        (repeat (first | simp only [List.set_cons_succ] | simp only [List.set_cons_zero]))
        refine wpD_pure (i := 8) (v := ?_) rfl (by kernel_rfl) (fun _ _ _ h => h) (Or.inl ⟨by kernel_rfl, ?_⟩) ?_
        rotate_left
        focus (intro w9 hS9; clear hS9; go_simp; (try with_reducible rfl))
        (try simp only [Act.put])
        (try simp only [List.setIfInBounds_toArray])
        (repeat (first | simp only [List.set_cons_succ] | simp only [List.set_cons_zero]))
        refine wpD_pure (i := 9) (v := ?_) rfl (by kernel_rfl) (fun _ _ _ h => h) (Or.inl ⟨by kernel_rfl, ?_⟩) ?_
        rotate_left
        focus (intro w9 hS9; clear hS9; go_simp; (try with_reducible rfl))
        (try simp only [Act.put])
        (try simp only [List.setIfInBounds_toArray])
        (repeat (first | simp only [List.set_cons_succ] | simp only [List.set_cons_zero]))
        have HK9 := Lib.hid (HK7.out.step HW.out)
        have HY9 := Lib.hid (HK9.out.setx hc8 HQ9.out)
        have HE9 := Lib.hid (HE2.out.keep (S' := MB w.heap.size b8 w9) (w' := w9) (MB.up HW.out.size) (fun k hk => HW.out.block k hk.1))
        obtain ⟨c0', c1', c2', c3', c4', c5', cf'⟩ := blk6' HK9.out.px
        refine wpD_ready (rs := [10]) (by kernel_rfl) (by kernel_rfl) ?_
        refine AllReadyD.cons rfl (fun K hK => ?_) AllReadyD.nil
        rw [if_pos (show _ = true by kernel_rfl)]
        go_simp
        refine hK.out _ _ ⟨fun h => absurd h (by decide), fun h => absurd h (by decide)⟩ (fun _ => ?_)
        clear hK K
        refine wpD_ready (rs := [11]) (by kernel_rfl) (by kernel_rfl) ?_
        refine AllReadyD.cons rfl (fun K hK => ?_) AllReadyD.nil
        rw [if_pos (show _ = true by kernel_rfl)]
        go_simp
        refine hK.out _ _ ⟨fun h => absurd h (by decide), fun h => absurd h (by decide)⟩ (fun _ => ?_)
        clear hK K
        refine wpD_done (by kernel_rfl) ?_
        by_cases q3 : er2 ≠ 0
        · have q3' : (er2 != 0) = true := by simpa using q3
          have HR := Lib.hid (show reconC a b = (a, b, 0, er2) from by rw [HRC.out, HF.out]; unfold rec2; rw [if_pos q3])
          clear q3
          go_upto_region 8 with (fail)
          have HRB := Lib.hid HY9.out.rb
          have hne1 : w.heap.size ≠ w.heap.size + 1 + 1 ∧ w.heap.size ≠ w.heap.size + 1 + 1 + 1 := by omega
          have hne2 : w.heap.size + 1 ≠ w.heap.size + 1 + 1 ∧ w.heap.size + 1 ≠ w.heap.size + 1 + 1 + 1 := by omega
          have HXA := Lib.hid (box6X HRB.out.pa hne1.1 hne1.2)
          have HXB := Lib.hid (box6X HRB.out.pb hne2.1 hne2.2)
          clear hne1 hne2
          refine wp_region_D (fun j => if j < 7 then 0 else if j < 7 then 1 else 2) (fun w' => KeepX (w.heap.size + 1 + 1) (w.heap.size + 1 + 1 + 1) _ w') (by kernel_rfl) (KeepX.drew (KeepX.refl _ _ _)) (fun hHeld => ?_)
          refine wpD_take (i := 0) (v := ?_) rfl (by kernel_rfl) (fun _ _ _ h => h) (Or.inl ⟨by kernel_rfl, ?_⟩) (by assumption) ?_
          rotate_left
          focus (intro w9 hS9; obtain ⟨z0, z1, z2, z3, z4, z5⟩ := HXA.out w9 hS9; clear hS9; go_simp; (try with_reducible rfl))
          (try simp only [Act.put])
          (try simp only [List.setIfInBounds_toArray])
          (repeat (first | simp only [List.set_cons_succ] | simp only [List.set_cons_zero]))
          refine wpD_take (i := 1) (v := ?_) rfl (by kernel_rfl) (fun _ _ _ h => h) (Or.inl ⟨by kernel_rfl, ?_⟩) (by assumption) ?_
          rotate_left
          focus (intro w9 hS9; obtain ⟨z0, z1, z2, z3, z4, z5⟩ := HXB.out w9 hS9; clear hS9; go_simp; (try with_reducible rfl))
          (try simp only [Act.put])
          (try simp only [List.setIfInBounds_toArray])
          (repeat (first | simp only [List.set_cons_succ] | simp only [List.set_cons_zero]))
          refine wpD_take (i := 2) (v := ?_) rfl (by kernel_rfl) (fun _ _ _ h => h) (Or.inl ⟨by kernel_rfl, ?_⟩) (by assumption) ?_
          rotate_left
          focus (intro w9 hS9; (try dsimp only at hS9); go_simp; (try with_reducible rfl))
          (try simp only [Act.put])
          (try simp only [List.setIfInBounds_toArray])
          (repeat (first | simp only [List.set_cons_succ] | simp only [List.set_cons_zero]))
          obtain ⟨s0, s1, s2, s3, s4, s5, sf⟩ := blk6' HRB.out.ra
          obtain ⟨t0, t1, t2, t3, t4, t5, tf⟩ := blk6' HRB.out.rb
          refine wpD_ready (rs := [3]) (by kernel_rfl) (by kernel_rfl) ?_
          refine AllReadyD.cons rfl (fun K hK => ?_) AllReadyD.nil
          rw [if_pos (show _ = true by kernel_rfl)]
          go_simp
          clear hHeld
          refine hK.out _ _ ⟨fun _ => (by with_reducible exact KeepX.drew (KeepX.set6 (KeepX.refl _ _ _) (.inl rfl))), fun h => absurd h (by decide)⟩ (fun hHeld0 => ?_)
          have hHeld := hHeld0.1 rfl
          clear hHeld0 hK K
          refine wpD_ready (rs := [4]) (by kernel_rfl) (by kernel_rfl) ?_
          refine AllReadyD.cons rfl (fun K hK => ?_) AllReadyD.nil
          rw [if_pos (show _ = true by kernel_rfl)]
          go_simp
          clear hHeld
          refine hK.out _ _ ⟨fun _ => (by with_reducible exact KeepX.drew (KeepX.set6 (KeepX.set6 (KeepX.refl _ _ _) (.inl rfl)) (.inr rfl))), fun h => absurd h (by decide)⟩ (fun hHeld0 => ?_)
          have hHeld := hHeld0.1 rfl
          clear hHeld0 hK K
          refine wpD_ready (rs := [5]) (by kernel_rfl) (by kernel_rfl) ?_
          refine AllReadyD.cons rfl (fun K hK => ?_) AllReadyD.nil
          rw [if_pos (show _ = true by kernel_rfl)]
          go_simp
          clear hHeld
          refine hK.out _ _ ⟨fun _ => (by with_reducible exact KeepX.drew (KeepX.set6 (KeepX.set6 (KeepX.refl _ _ _) (.inl rfl)) (.inr rfl))), fun h => absurd h (by decide)⟩ (fun hHeld0 => ?_)
          have hHeld := hHeld0.1 rfl
          clear hHeld0 hK K
          refine wpD_ready (rs := [6]) (by kernel_rfl) (by kernel_rfl) ?_
          refine AllReadyD.cons rfl (fun K hK => ?_) AllReadyD.nil
          rw [if_pos (show _ = true by kernel_rfl)]
          go_simp
          clear hHeld
          refine hK.out _ _ ⟨fun _ => (by with_reducible exact KeepX.drew (KeepX.set6 (KeepX.set6 (KeepX.refl _ _ _) (.inl rfl)) (.inr rfl))), fun h => absurd h (by decide)⟩ (fun hHeld0 => ?_)
          have hHeld := hHeld0.1 rfl
          clear hHeld0 hK K
          refine wpD_done (by kernel_rfl) ?_
          go_wp2_with (fail)
          have h2 : w.heap.size ≤ w.heap.size + 1 + 1 := by omega
          have h3 : w.heap.size ≤ w.heap.size + 1 + 1 + 1 := by omega
          refine bodyPost_ret (v := .tuple #[.agg #[.string a.nm, .int .i64 a.out, .int .i64 a.inn, .slice x1 a.wt.length y1, .slice x2 a.ours.length y2, .slice x3 a.thr.length y3], .agg #[.string b.nm, .int .i64 b.out, .int .i64 b.inn, .slice z1 b.wt.length e1, .slice z2 b.ours.length e2, .slice z3 b.thr.length e3], .int .i64 0, .int .i64 er2])
            (by simp [results, Tryz.results11, go_sem, s0, s1, s2, s3, s4, s5, t0, t1, t2, t3, t4, t5]) rfl ?_
          refine And.intro ?_ ?_
          · refine rv4_mk HR.out ?_ ?_
            · refine HA.out.keep (fun k hk => ?_) (fun k hk => ?_)
              · refine Nat.lt_of_lt_of_le hk (Below.size (B := w.heap.size) (w := w) ?_)
                with_reducible exact Below.drew (bl_set6 (bl_set6 HRB.out.bel h2) h3)
              · refine KeepX.at (w := _) (x := w.heap.size + 1 + 1) (y := w.heap.size + 1 + 1 + 1) ?_ HRB.out.bel hk h2 h3
                with_reducible exact KeepX.drew (KeepX.set6 (KeepX.set6 (KeepX.refl _ _ _) (.inl rfl)) (.inr rfl))
            · refine HB.out.keep (fun k hk => ?_) (fun k hk => ?_)
              · refine Nat.lt_of_lt_of_le hk (Below.size (B := w.heap.size) (w := w) ?_)
                with_reducible exact Below.drew (bl_set6 (bl_set6 HRB.out.bel h2) h3)
              · refine KeepX.at (w := _) (x := w.heap.size + 1 + 1) (y := w.heap.size + 1 + 1 + 1) ?_ HRB.out.bel hk h2 h3
                with_reducible exact KeepX.drew (KeepX.set6 (KeepX.set6 (KeepX.refl _ _ _) (.inl rfl)) (.inr rfl))
          · with_reducible exact Below.drew (bl_set6 (bl_set6 HRB.out.bel h2) h3)
        · obtain rfl : er2 = 0 := by omega
          clear q3
          go_wp2_with (fail)
          go_meet
          exact ⟨xp, _, _, _, _, _, _, rfl, HF.out, HY9.out, HE9.out.keep (MB.up (by simp)) (fun k hk => set6_ne hk.2.2.1)⟩
    case rest =>
      obtain ⟨x', p1, p2, p3, s1, s2, s3, rfl, hfx, hkb, he2⟩ := hcut
      have HFX := Lib.hid hfx
      have HZX' := Lib.hid (show SzP (k + 2 * 164) (n + 2 * 164) (m + k) x' from by
        have := HZX.out.fix b.nm (L := L1) (d := 164) hl1
        rw [hfx] at this
        exact this)
      clear HK7 HE1 HE2 HZX hfx hx8 hw6q hw7q
      have HK7 := Lib.hid hkb
      have HE2 := Lib.hid he2
      clear hkb he2
      go_upto_if 51 with (fail)
      go_cut [10] (fun v10 wx => ∃ (y' : Par) (r1 r2 r3 : Option Addr) (t1 t2 t3 : Nat), v10 = .int .i64 0 ∧ fixC y a.nm L2 = (y', 0) ∧ KB w a b x' y' (.slice x1 a.wt.length y1) (.slice x2 a.ours.length y2) (.slice x3 a.thr.length y3) (.slice z1 b.wt.length e1) (.slice z2 b.ours.length e2) (.slice z3 b.thr.length e3) (.slice p1 x'.wt.length s1) (.slice p2 x'.ours.length s2) (.slice p3 x'.thr.length s3) (.slice r1 y'.wt.length t1) (.slice r2 y'.ours.length t2) (.slice r3 y'.thr.length t3) b8 wx)
      case first =>
        obtain ⟨wd, hwd⟩ : ∃ wd, wc = wd := ⟨_, rfl⟩
        rw [hwd] at HK7 HE2 ⊢
        clear hwd wc
        by_cases q2 : L2.length = 0
        · have q2' : ¬ (0 : Int) < (L2.length : Int) := by omega
          have HF := Lib.hid (show fixC y a.nm L2 = (y, 0) from by unfold fixC; rw [if_pos q2])
          clear q2
          go_wp2_with (fail)
          go_meet
          exact ⟨y, _, _, _, _, _, _, rfl, HF.out, HK7.out⟩
        · have q2' : (0 : Int) < (L2.length : Int) := by omega
          obtain ⟨yp, fp, er2, hse⟩ : ∃ yp fp er2, sendC y a.nm (correctC L2) = (yp, fp, er2) := ⟨_, _, _, rfl⟩
          have HF := Lib.hid (show fixC y a.nm L2 = (yp, er2) from by unfold fixC; rw [if_neg q2, hse])
          have HX9 := Lib.hid (box6D HK7.out.py)
          have HXA := Lib.hid (box6D HK7.out.rb.pa)
          have HCC := Lib.hid (show ∀ W', Below wd.heap.size wd W' → Calls Tryz.prog 23 #[.slice d2 L2.length k2] W' fun e w' => (∃ v', e = .returned v' ∧ OwnSl tRec 49 W'.heap.size w' v' (correctC L2)) ∧ Below W'.heap.size W' w' from fun W' hW => correct_any L2 _ W' ((HE2.out.keep (S' := (· < wd.heap.size)) (fun k hk => hk.1) (SameOn.refl _ _)).step hW) (by omega))
          have HSD := Lib.hid (show ∀ W' vc, Below wd.heap.size wd W' → SlIs tRec (· < W'.heap.size) W' vc (correctC L2) → Calls Tryz.prog 32 #[.agg #[.string y.nm, .int .i64 y.out, .int .i64 y.inn, .slice g1 y.wt.length h1, .slice g2 y.ours.length h2, .slice g3 y.thr.length h3], .string a.nm, vc] W'
              fun e w' => (∃ p1 s1 p2 s2 p3 s3 vf, e = .returned (.tuple #[.agg #[.string yp.nm, .int .i64 yp.out, .int .i64 yp.inn, .slice p1 yp.wt.length s1, .slice p2 yp.ours.length s2, .slice p3 yp.thr.length s3], .agg #[.string fp.fr, .string fp.to, .int .i64 fp.sq, vf], .int .i64 er2]) ∧
                ParOk (MB w.heap.size b8 w') w' yp (.slice p1 yp.wt.length s1) (.slice p2 yp.ours.length s2) (.slice p3 yp.thr.length s3)) ∧ Below W'.heap.size W' w' from fun W' vc hW hvc => by
            refine (send_gen (MB w.heap.size b8 wd) y a.nm (correctC L2) _ _ _ vc W' (HK7.out.oy.keep (fun _ h => h) (fun k hk => hW.block k hk.1)) (fun k hk => Nat.lt_of_lt_of_le hk.1 hW.size) (HZY.out.small (by omega) (by omega) (by omega)) HNM.out.1 hvc).mono ?_
            rintro e w' ⟨he, hb'⟩
            obtain ⟨p1, s1, p2, s2, p3, s3, vf, rfl, hq⟩ := he.form
            rw [hse] at hq ⊢
            have hlt := HK7.out.lt
            have hws := hW.size
            exact ⟨⟨p1, s1, p2, s2, p3, s3, vf, rfl, hq.keep (fun k hk => by
              rcases hk with hk | hk
              · exact MB.up (Nat.le_trans hws hb'.size) k hk
              · exact ⟨hk.2, .inr (by omega), by omega, by omega⟩) (SameOn.refl _ _)⟩, hb'⟩)
          have HW := Lib.hid (Below.refl wd.heap.size wd)
          clear q2 hse
          go_upto_region 10 with (fail)
          refine wp_region_D (fun j => if j < 8 then 0 else if j < 10 then 1 else 2) (fun w' => Below wd.heap.size wd w') (by kernel_rfl) ((by (repeat (first | (with_reducible exact Below.refl _ _) | (with_reducible exact HW.out) | (with_reducible apply bl_drewN) | (with_reducible apply bl_alloc) | (with_reducible apply Below.drew))); done)) (fun hHeld => ?_)
          refine wpD_take (i := 0) (v := ?_) rfl (by kernel_rfl) (fun _ _ _ h => h) (Or.inl ⟨by kernel_rfl, ?_⟩) (by assumption) ?_
          rotate_left
          focus (intro w9 hS9; obtain ⟨z0, z1, z2, z3, z4, z5⟩ := HX9.out w9 hS9; clear hS9; go_simp; (try with_reducible rfl))
          (try simp only [Act.put])
          (try simp only [List.setIfInBounds_toArray])
          (repeat (first | simp only [List.set_cons_succ] | simp only [List.set_cons_zero]))
          refine wpD_take (i := 1) (v := ?_) rfl (by kernel_rfl) (fun _ _ _ h => h) (Or.inl ⟨by kernel_rfl, ?_⟩) (by assumption) ?_
          rotate_left
          focus (intro w9 hS9; (try dsimp only at hS9); go_simp; (try with_reducible rfl))
          (try simp only [Act.put])
          (try simp only [List.setIfInBounds_toArray])
          (repeat (first | simp only [List.set_cons_succ] | simp only [List.set_cons_zero]))
          refine wpD_take (i := 2) (v := ?_) rfl (by kernel_rfl) (fun _ _ _ h => h) (Or.inl ⟨by kernel_rfl, ?_⟩) (by assumption) ?_
          rotate_left
          focus (intro w9 hS9; obtain ⟨z0, z1, z2, z3, z4, z5⟩ := HXA.out w9 hS9; clear hS9; go_simp; (try with_reducible rfl))
          (try simp only [Act.put])
          (try simp only [List.setIfInBounds_toArray])
          (repeat (first | simp only [List.set_cons_succ] | simp only [List.set_cons_zero]))
          refine wpD_take (i := 3) (v := ?_) rfl (by kernel_rfl) (fun _ _ _ h => h) (Or.inl ⟨by kernel_rfl, ?_⟩) (by assumption) ?_
          rotate_left
          focus (intro w9 hS9; (try dsimp only at hS9); go_simp; (try with_reducible rfl))
          (try simp only [Act.put])
          (try simp only [List.setIfInBounds_toArray])
          (repeat (first | simp only [List.set_cons_succ] | simp only [List.set_cons_zero]))
          refine wpD_ready (rs := [4]) (by kernel_rfl) (by kernel_rfl) ?_
          refine AllReadyD.cons rfl (fun K hK => ?_) AllReadyD.nil
          rw [if_pos (show _ = true by kernel_rfl)]
          go_simp
          go_wp2_with (
            go_at_call 23
            refine (HCC.out _ (by (repeat (first | (with_reducible exact Below.refl _ _) | (with_reducible exact HW.out) | (with_reducible apply bl_drewN) | (with_reducible apply bl_alloc) | (with_reducible apply Below.drew))); done)).mono ?_
            rintro e w8 ⟨⟨vc, rfl, hvc⟩, hb9⟩
            obtain ⟨a8, c8, rfl, -, -⟩ := hvc.form
            have HVC := Lib.hid hvc.sl
            have HP1 := Lib.hid (show Below wd.heap.size wd w8 from by (refine bl_trans ?_ hb9; exact (by (repeat (first | (with_reducible exact Below.refl _ _) | (with_reducible exact HW.out) | (with_reducible apply bl_drewN) | (with_reducible apply bl_alloc) | (with_reducible apply Below.drew))); done)))
            clear HW hb9 hvc
            have HW := HP1
            clear HP1)
          clear hHeld
          refine hK.out _ _ ⟨fun _ => HW.out, fun h => absurd h (by decide)⟩ (fun hHeld0 => ?_)
          have hHeld := hHeld0.1 rfl
          clear hHeld0 hK K
          refine wpD_ready (rs := [5]) (by kernel_rfl) (by kernel_rfl) ?_
          refine AllReadyD.cons rfl (fun K hK => ?_) AllReadyD.nil
          rw [if_pos (show _ = true by kernel_rfl)]
          go_simp
          go_wp2_with (
            go_at_call 32
            refine (HSD.out _ _ (by (repeat (first | (with_reducible exact Below.refl _ _) | (with_reducible exact HW.out) | (with_reducible apply bl_drewN) | (with_reducible apply bl_alloc) | (with_reducible apply Below.drew))); done) (HVC.out.step (show Below w8.heap.size w8 _ from by (repeat (first | (with_reducible exact Below.refl _ _) | (with_reducible apply bl_drewN) | (with_reducible apply Below.drew)))))).mono ?_
            rintro e w9 ⟨⟨p1, s1, p2, s2, p3, s3, vf, rfl, hq9⟩, hb9⟩
            have HQ9 := Lib.hid hq9
            have HP1 := Lib.hid (show Below wd.heap.size wd w9 from by (refine bl_trans ?_ hb9; exact (by (repeat (first | (with_reducible exact Below.refl _ _) | (with_reducible exact HW.out) | (with_reducible apply bl_drewN) | (with_reducible apply bl_alloc) | (with_reducible apply Below.drew))); done)))
            clear HW hb9 hq9
            have HW := HP1
            clear HP1)
          clear hHeld
          refine hK.out _ _ ⟨fun _ => HW.out, fun h => absurd h (by decide)⟩ (fun hHeld0 => ?_)
          have hHeld := hHeld0.1 rfl
          clear hHeld0 hK K
          refine wpD_take (i := 6) (v := ?_) rfl (by kernel_rfl) (fun _ _ _ h => h) (Or.inl ⟨by kernel_rfl, ?_⟩) (by assumption) ?_
          rotate_left
          focus (intro w9 hS9; (try dsimp only at hS9); go_simp; (try with_reducible rfl))
          (try simp only [Act.put])
          (try simp only [List.setIfInBounds_toArray])
          (repeat (first | simp only [List.set_cons_succ] | simp only [List.set_cons_zero]))
          refine wpD_take (i := 7) (v := ?_) rfl (by kernel_rfl) (fun _ _ _ h => h) (Or.inl ⟨by kernel_rfl, ?_⟩) (by assumption) ?_
          rotate_left
          focus (intro w9 hS9; (try dsimp only at hS9); go_simp; (try with_reducible rfl))
          (try simp only [Act.put])
          (try simp only [List.setIfInBounds_toArray])
          (repeat (first | simp only [List.set_cons_succ] | simp only [List.set_cons_zero]))
          refine wpD_pure (i := 8) (v := ?_) rfl (by kernel_rfl) (fun _ _ _ h => h) (Or.inl ⟨by kernel_rfl, ?_⟩) ?_
          rotate_left
          focus (intro w9 hS9; clear hS9; go_simp; (try with_reducible rfl))
          (try simp only [Act.put])
          (try simp only [List.setIfInBounds_toArray])
          (repeat (first | simp only [List.set_cons_succ] | simp only [List.set_cons_zero]))
          refine wpD_pure (i := 9) (v := ?_) rfl (by kernel_rfl) (fun _ _ _ h => h) (Or.inl ⟨by kernel_rfl, ?_⟩) ?_
          rotate_left
          focus (intro w9 hS9; clear hS9; go_simp; (try with_reducible rfl))
          (try simp only [Act.put])
          (try simp only [List.setIfInBounds_toArray])
          (repeat (first | simp only [List.set_cons_succ] | simp only [List.set_cons_zero]))
          have HK9 := Lib.hid (HK7.out.step HW.out)
          have HY9 := Lib.hid (HK9.out.sety hc8 HQ9.out)
          skip
          obtain ⟨c0', c1', c2', c3', c4', c5', cf'⟩ := blk6' HK9.out.py
          refine wpD_ready (rs := [10]) (by kernel_rfl) (by kernel_rfl) ?_
          refine AllReadyD.cons rfl (fun K hK => ?_) AllReadyD.nil
          rw [if_pos (show _ = true by kernel_rfl)]
          go_simp
          refine hK.out _ _ ⟨fun h => absurd h (by decide), fun h => absurd h (by decide)⟩ (fun _ => ?_)
          clear hK K
          refine wpD_ready (rs := [11]) (by kernel_rfl) (by kernel_rfl) ?_
          refine AllReadyD.cons rfl (fun K hK => ?_) AllReadyD.nil
          rw [if_pos (show _ = true by kernel_rfl)]
          go_simp
          refine hK.out _ _ ⟨fun h => absurd h (by decide), fun h => absurd h (by decide)⟩ (fun _ => ?_)
          clear hK K
          refine wpD_done (by kernel_rfl) ?_
          by_cases q3 : er2 ≠ 0
          · have q3' : (er2 != 0) = true := by simpa using q3
            have HR := Lib.hid (show reconC a b = (a, b, 0, er2) from by rw [HRC.out, HFX.out, HF.out]; unfold rec2; rw [if_neg (by simp), if_pos q3])
            clear q3
            go_upto_region 12 with (fail)
            have HRB := Lib.hid HY9.out.rb
            have hne1 : w.heap.size ≠ w.heap.size + 1 + 1 ∧ w.heap.size ≠ w.heap.size + 1 + 1 + 1 := by omega
            have hne2 : w.heap.size + 1 ≠ w.heap.size + 1 + 1 ∧ w.heap.size + 1 ≠ w.heap.size + 1 + 1 + 1 := by omega
            have HXA := Lib.hid (box6X HRB.out.pa hne1.1 hne1.2)
            have HXB := Lib.hid (box6X HRB.out.pb hne2.1 hne2.2)
            clear hne1 hne2
            refine wp_region_D (fun j => if j < 7 then 0 else if j < 7 then 1 else 2) (fun w' => KeepX (w.heap.size + 1 + 1) (w.heap.size + 1 + 1 + 1) _ w') (by kernel_rfl) (KeepX.drew (KeepX.refl _ _ _)) (fun hHeld => ?_)
            refine wpD_take (i := 0) (v := ?_) rfl (by kernel_rfl) (fun _ _ _ h => h) (Or.inl ⟨by kernel_rfl, ?_⟩) (by assumption) ?_
            rotate_left
            focus (intro w9 hS9; obtain ⟨z0, z1, z2, z3, z4, z5⟩ := HXA.out w9 hS9; clear hS9; go_simp; (try with_reducible rfl))
            (try simp only [Act.put])
            (try simp only [List.setIfInBounds_toArray])
            (repeat (first | simp only [List.set_cons_succ] | simp only [List.set_cons_zero]))
            refine wpD_take (i := 1) (v := ?_) rfl (by kernel_rfl) (fun _ _ _ h => h) (Or.inl ⟨by kernel_rfl, ?_⟩) (by assumption) ?_
            rotate_left
            focus (intro w9 hS9; obtain ⟨z0, z1, z2, z3, z4, z5⟩ := HXB.out w9 hS9; clear hS9; go_simp; (try with_reducible rfl))
            (try simp only [Act.put])
            (try simp only [List.setIfInBounds_toArray])
            (repeat (first | simp only [List.set_cons_succ] | simp only [List.set_cons_zero]))
            refine wpD_take (i := 2) (v := ?_) rfl (by kernel_rfl) (fun _ _ _ h => h) (Or.inl ⟨by kernel_rfl, ?_⟩) (by assumption) ?_
            rotate_left
            focus (intro w9 hS9; (try dsimp only at hS9); go_simp; (try with_reducible rfl))
            (try simp only [Act.put])
            (try simp only [List.setIfInBounds_toArray])
            (repeat (first | simp only [List.set_cons_succ] | simp only [List.set_cons_zero]))
            obtain ⟨s0, s1, s2, s3, s4, s5, sf⟩ := blk6' HRB.out.ra
            obtain ⟨t0, t1, t2, t3, t4, t5, tf⟩ := blk6' HRB.out.rb
            refine wpD_ready (rs := [3]) (by kernel_rfl) (by kernel_rfl) ?_
            refine AllReadyD.cons rfl (fun K hK => ?_) AllReadyD.nil
            rw [if_pos (show _ = true by kernel_rfl)]
            go_simp
            clear hHeld
            refine hK.out _ _ ⟨fun _ => (by with_reducible exact KeepX.drew (KeepX.set6 (KeepX.refl _ _ _) (.inl rfl))), fun h => absurd h (by decide)⟩ (fun hHeld0 => ?_)
            have hHeld := hHeld0.1 rfl
            clear hHeld0 hK K
            refine wpD_ready (rs := [4]) (by kernel_rfl) (by kernel_rfl) ?_
            refine AllReadyD.cons rfl (fun K hK => ?_) AllReadyD.nil
            rw [if_pos (show _ = true by kernel_rfl)]
            go_simp
            clear hHeld
            refine hK.out _ _ ⟨fun _ => (by with_reducible exact KeepX.drew (KeepX.set6 (KeepX.set6 (KeepX.refl _ _ _) (.inl rfl)) (.inr rfl))), fun h => absurd h (by decide)⟩ (fun hHeld0 => ?_)
            have hHeld := hHeld0.1 rfl
            clear hHeld0 hK K
            refine wpD_ready (rs := [5]) (by kernel_rfl) (by kernel_rfl) ?_
            refine AllReadyD.cons rfl (fun K hK => ?_) AllReadyD.nil
            rw [if_pos (show _ = true by kernel_rfl)]
            go_simp
            clear hHeld
            refine hK.out _ _ ⟨fun _ => (by with_reducible exact KeepX.drew (KeepX.set6 (KeepX.set6 (KeepX.refl _ _ _) (.inl rfl)) (.inr rfl))), fun h => absurd h (by decide)⟩ (fun hHeld0 => ?_)
            have hHeld := hHeld0.1 rfl
            clear hHeld0 hK K
            refine wpD_ready (rs := [6]) (by kernel_rfl) (by kernel_rfl) ?_
            refine AllReadyD.cons rfl (fun K hK => ?_) AllReadyD.nil
            rw [if_pos (show _ = true by kernel_rfl)]
            go_simp
            clear hHeld
            refine hK.out _ _ ⟨fun _ => (by with_reducible exact KeepX.drew (KeepX.set6 (KeepX.set6 (KeepX.refl _ _ _) (.inl rfl)) (.inr rfl))), fun h => absurd h (by decide)⟩ (fun hHeld0 => ?_)
            have hHeld := hHeld0.1 rfl
            clear hHeld0 hK K
            refine wpD_done (by kernel_rfl) ?_
            go_wp2_with (fail)
            have h2 : w.heap.size ≤ w.heap.size + 1 + 1 := by omega
            have h3 : w.heap.size ≤ w.heap.size + 1 + 1 + 1 := by omega
            refine bodyPost_ret (v := .tuple #[.agg #[.string a.nm, .int .i64 a.out, .int .i64 a.inn, .slice x1 a.wt.length y1, .slice x2 a.ours.length y2, .slice x3 a.thr.length y3], .agg #[.string b.nm, .int .i64 b.out, .int .i64 b.inn, .slice z1 b.wt.length e1, .slice z2 b.ours.length e2, .slice z3 b.thr.length e3], .int .i64 0, .int .i64 er2])
              (by simp [results, Tryz.results11, go_sem, s0, s1, s2, s3, s4, s5, t0, t1, t2, t3, t4, t5]) rfl ?_
            refine And.intro ?_ ?_
            · refine rv4_mk HR.out ?_ ?_
              · refine HA.out.keep (fun k hk => ?_) (fun k hk => ?_)
                · refine Nat.lt_of_lt_of_le hk (Below.size (B := w.heap.size) (w := w) ?_)
                  with_reducible exact Below.drew (bl_set6 (bl_set6 HRB.out.bel h2) h3)
                · refine KeepX.at (w := _) (x := w.heap.size + 1 + 1) (y := w.heap.size + 1 + 1 + 1) ?_ HRB.out.bel hk h2 h3
                  with_reducible exact KeepX.drew (KeepX.set6 (KeepX.set6 (KeepX.refl _ _ _) (.inl rfl)) (.inr rfl))
              · refine HB.out.keep (fun k hk => ?_) (fun k hk => ?_)
                · refine Nat.lt_of_lt_of_le hk (Below.size (B := w.heap.size) (w := w) ?_)
                  with_reducible exact Below.drew (bl_set6 (bl_set6 HRB.out.bel h2) h3)
                · refine KeepX.at (w := _) (x := w.heap.size + 1 + 1) (y := w.heap.size + 1 + 1 + 1) ?_ HRB.out.bel hk h2 h3
                  with_reducible exact KeepX.drew (KeepX.set6 (KeepX.set6 (KeepX.refl _ _ _) (.inl rfl)) (.inr rfl))
            · with_reducible exact Below.drew (bl_set6 (bl_set6 HRB.out.bel h2) h3)
          · obtain rfl : er2 = 0 := by omega
            clear q3
            go_wp2_with (fail)
            go_meet
            exact ⟨yp, _, _, _, _, _, _, rfl, HF.out, HY9.out⟩
      case rest =>
        obtain ⟨y', r1, r2, r3, t1, t2, t3, rfl, hfy, hkb⟩ := hcut
        have HZY' := Lib.hid (show SzP (k + 2 * 164) (n + 2 * 164) (m + k) y' from by
          have := HZY.out.fix a.nm (L := L2) (d := 164) hl2
          rw [hfy] at this
          exact this)
        have HR2 := Lib.hid (show reconC a b = rec3 a b ((L1.length : Int) + (L2.length : Int)) (roundC x' y' []) from by
          rw [HRC.out, HFX.out, hfy]; unfold rec2; rw [if_neg (by simp), if_neg (by simp)])
        have HZR2 := Lib.hid (HZX'.out.round HZY'.out [])
        clear HK7 HE2 hfy HZY HRC HFX
        have HK := Lib.hid hkb
        clear hkb
        obtain ⟨c0', c1', c2', c3', c4', c5', cf'⟩ := blk6' HK.out.px
        obtain ⟨d0', d1', d2', d3', d4', d5', df'⟩ := blk6' HK.out.py
        go_wp2_with (fail)
        refine (round_gen (MB w.heap.size b8 wc) (k + 2 * 164) (n + 2 * 164) (m + k) x' y' [] _ _ _ _ _ _ (.slice none 0 0) wc HK.out.ox HK.out.oy (fun k hk => hk.1) SlIs.nil HZX'.out HZY'.out (by omega) (by omega)).mono ?_
        rintro e w6 ⟨he, hb6⟩
        obtain ⟨v1, j1, v2, j2, v3, j3, o1, q1, o2, q2, o3, q3, rfl, hq1, hq2⟩ := rv_form he
        obtain ⟨xx, yy, er, hr⟩ : ∃ xx yy er, roundC x' y' [] = (xx, yy, er) := ⟨_, _, _, rfl⟩
        rw [hr] at hq1 hq2 HZR2 ⊢
        dsimp only at hq1 hq2 ⊢
        have HRE := Lib.hid hr
        have hlt := HK.out.lt
        have HK6 := Lib.hid (HK.out.step hb6)
        have HQ1 := Lib.hid (hq1.keep (S' := MB w.heap.size b8 w6) (w' := w6) (fun k hk => MB.sn hlt.1 hlt.2 hb6.size k hk) (SameOn.refl _ _))
        have HQ2 := Lib.hid (hq2.keep (S' := MB w.heap.size b8 w6) (w' := w6) (fun k hk => MB.sn hlt.1 hlt.2 hb6.size k hk) (SameOn.refl _ _))
        clear c0' c1' c2' c3' c4' c5' cf' d0' d1' d2' d3' d4' d5' df' hq1 hq2 he hr hb6 HK hlt
        obtain ⟨c0', c1', c2', c3', c4', c5', cf'⟩ := blk6' HK6.out.px
        obtain ⟨d0', d1', d2', d3', d4', d5', df'⟩ := blk6' HK6.out.py
        have HKX := Lib.hid (HK6.out.setx hc8 HQ1.out)
        have HKZ := Lib.hid (HKX.out.sety (y' := yy) hc8 (HQ2.out.keep (MB.up (by simp)) (fun k hk => set6_ne hk.2.2.1)))
        clear HKX HQ1 HQ2 HK6
        go_upto_region 14 with (fail)
        obtain ⟨wz, hwz⟩ : ∃ wz, ((((((((((((w6.setCell ⟨b8, 0, none⟩ (.string xx.nm)).setCell ⟨b8, 1, none⟩ (.int .i64 xx.out)).setCell ⟨b8, 2, none⟩ (.int .i64 xx.inn)).setCell ⟨b8, 3, none⟩ (.slice v1 xx.wt.length j1)).setCell ⟨b8, 4, none⟩ (.slice v2 xx.ours.length j2)).setCell ⟨b8, 5, none⟩ (.slice v3 xx.thr.length j3)).setCell ⟨b8 + 1, 0, none⟩ (.string yy.nm)).setCell ⟨b8 + 1, 1, none⟩ (.int .i64 yy.out)).setCell ⟨b8 + 1, 2, none⟩ (.int .i64 yy.inn)).setCell ⟨b8 + 1, 3, none⟩ (.slice o1 yy.wt.length q1)).setCell ⟨b8 + 1, 4, none⟩ (.slice o2 yy.ours.length q2)).setCell ⟨b8 + 1, 5, none⟩ (.slice o3 yy.thr.length q3)) = wz := ⟨_, rfl⟩
        rw [hwz] at HKZ ⊢
        clear hwz c0' c1' c2' c3' c4' c5' cf' d0' d1' d2' d3' d4' d5' df'
        by_cases q4 : er ≠ 0
        · have q4' : (er != 0) = true := by simpa using q4
          have HR := Lib.hid (show reconC a b = (a, b, 0, er) from by rw [HR2.out, HRE.out]; unfold rec3; rw [if_pos q4])
          clear q4
          go_upto_region 15 with (fail)
          have HRB := Lib.hid HKZ.out.rb
          have hne1 : w.heap.size ≠ w.heap.size + 1 + 1 ∧ w.heap.size ≠ w.heap.size + 1 + 1 + 1 := by omega
          have hne2 : w.heap.size + 1 ≠ w.heap.size + 1 + 1 ∧ w.heap.size + 1 ≠ w.heap.size + 1 + 1 + 1 := by omega
          have HXA := Lib.hid (box6X HRB.out.pa hne1.1 hne1.2)
          have HXB := Lib.hid (box6X HRB.out.pb hne2.1 hne2.2)
          clear hne1 hne2
          refine wp_region_D (fun j => if j < 7 then 0 else if j < 7 then 1 else 2) (fun w' => KeepX (w.heap.size + 1 + 1) (w.heap.size + 1 + 1 + 1) _ w') (by kernel_rfl) (KeepX.drew (KeepX.refl _ _ _)) (fun hHeld => ?_)
          refine wpD_take (i := 0) (v := ?_) rfl (by kernel_rfl) (fun _ _ _ h => h) (Or.inl ⟨by kernel_rfl, ?_⟩) (by assumption) ?_
          rotate_left
          focus (intro w9 hS9; obtain ⟨z0, z1, z2, z3, z4, z5⟩ := HXA.out w9 hS9; clear hS9; go_simp; (try with_reducible rfl))
          (try simp only [Act.put])
          (try simp only [List.setIfInBounds_toArray])
          (repeat (first | simp only [List.set_cons_succ] | simp only [List.set_cons_zero]))
          refine wpD_take (i := 1) (v := ?_) rfl (by kernel_rfl) (fun _ _ _ h => h) (Or.inl ⟨by kernel_rfl, ?_⟩) (by assumption) ?_
          rotate_left
          focus (intro w9 hS9; obtain ⟨z0, z1, z2, z3, z4, z5⟩ := HXB.out w9 hS9; clear hS9; go_simp; (try with_reducible rfl))
          (try simp only [Act.put])
          (try simp only [List.setIfInBounds_toArray])
          (repeat (first | simp only [List.set_cons_succ] | simp only [List.set_cons_zero]))
          refine wpD_take (i := 2) (v := ?_) rfl (by kernel_rfl) (fun _ _ _ h => h) (Or.inl ⟨by kernel_rfl, ?_⟩) (by assumption) ?_
          rotate_left
          focus (intro w9 hS9; (try dsimp only at hS9); go_simp; (try with_reducible rfl))
          (try simp only [Act.put])
          (try simp only [List.setIfInBounds_toArray])
          (repeat (first | simp only [List.set_cons_succ] | simp only [List.set_cons_zero]))
          obtain ⟨s0, s1, s2, s3, s4, s5, sf⟩ := blk6' HRB.out.ra
          obtain ⟨t0, t1, t2, t3, t4, t5, tf⟩ := blk6' HRB.out.rb
          refine wpD_ready (rs := [3]) (by kernel_rfl) (by kernel_rfl) ?_
          refine AllReadyD.cons rfl (fun K hK => ?_) AllReadyD.nil
          rw [if_pos (show _ = true by kernel_rfl)]
          go_simp
          clear hHeld
          refine hK.out _ _ ⟨fun _ => (by with_reducible exact KeepX.drew (KeepX.set6 (KeepX.refl _ _ _) (.inl rfl))), fun h => absurd h (by decide)⟩ (fun hHeld0 => ?_)
          have hHeld := hHeld0.1 rfl
          clear hHeld0 hK K
          refine wpD_ready (rs := [4]) (by kernel_rfl) (by kernel_rfl) ?_
          refine AllReadyD.cons rfl (fun K hK => ?_) AllReadyD.nil
          rw [if_pos (show _ = true by kernel_rfl)]
          go_simp
          clear hHeld
          refine hK.out _ _ ⟨fun _ => (by with_reducible exact KeepX.drew (KeepX.set6 (KeepX.set6 (KeepX.refl _ _ _) (.inl rfl)) (.inr rfl))), fun h => absurd h (by decide)⟩ (fun hHeld0 => ?_)
          have hHeld := hHeld0.1 rfl
          clear hHeld0 hK K
          refine wpD_ready (rs := [5]) (by kernel_rfl) (by kernel_rfl) ?_
          refine AllReadyD.cons rfl (fun K hK => ?_) AllReadyD.nil
          rw [if_pos (show _ = true by kernel_rfl)]
          go_simp
          clear hHeld
          refine hK.out _ _ ⟨fun _ => (by with_reducible exact KeepX.drew (KeepX.set6 (KeepX.set6 (KeepX.refl _ _ _) (.inl rfl)) (.inr rfl))), fun h => absurd h (by decide)⟩ (fun hHeld0 => ?_)
          have hHeld := hHeld0.1 rfl
          clear hHeld0 hK K
          refine wpD_ready (rs := [6]) (by kernel_rfl) (by kernel_rfl) ?_
          refine AllReadyD.cons rfl (fun K hK => ?_) AllReadyD.nil
          rw [if_pos (show _ = true by kernel_rfl)]
          go_simp
          clear hHeld
          refine hK.out _ _ ⟨fun _ => (by with_reducible exact KeepX.drew (KeepX.set6 (KeepX.set6 (KeepX.refl _ _ _) (.inl rfl)) (.inr rfl))), fun h => absurd h (by decide)⟩ (fun hHeld0 => ?_)
          have hHeld := hHeld0.1 rfl
          clear hHeld0 hK K
          refine wpD_done (by kernel_rfl) ?_
          go_wp2_with (fail)
          have h2 : w.heap.size ≤ w.heap.size + 1 + 1 := by omega
          have h3 : w.heap.size ≤ w.heap.size + 1 + 1 + 1 := by omega
          refine bodyPost_ret (v := .tuple #[.agg #[.string a.nm, .int .i64 a.out, .int .i64 a.inn, .slice x1 a.wt.length y1, .slice x2 a.ours.length y2, .slice x3 a.thr.length y3], .agg #[.string b.nm, .int .i64 b.out, .int .i64 b.inn, .slice z1 b.wt.length e1, .slice z2 b.ours.length e2, .slice z3 b.thr.length e3], .int .i64 0, .int .i64 er])
            (by simp [results, Tryz.results11, go_sem, s0, s1, s2, s3, s4, s5, t0, t1, t2, t3, t4, t5]) rfl ?_
          refine And.intro ?_ ?_
          · refine rv4_mk HR.out ?_ ?_
            · refine HA.out.keep (fun k hk => ?_) (fun k hk => ?_)
              · refine Nat.lt_of_lt_of_le hk (Below.size (B := w.heap.size) (w := w) ?_)
                with_reducible exact Below.drew (bl_set6 (bl_set6 HRB.out.bel h2) h3)
              · refine KeepX.at (w := _) (x := w.heap.size + 1 + 1) (y := w.heap.size + 1 + 1 + 1) ?_ HRB.out.bel hk h2 h3
                with_reducible exact KeepX.drew (KeepX.set6 (KeepX.set6 (KeepX.refl _ _ _) (.inl rfl)) (.inr rfl))
            · refine HB.out.keep (fun k hk => ?_) (fun k hk => ?_)
              · refine Nat.lt_of_lt_of_le hk (Below.size (B := w.heap.size) (w := w) ?_)
                with_reducible exact Below.drew (bl_set6 (bl_set6 HRB.out.bel h2) h3)
              · refine KeepX.at (w := _) (x := w.heap.size + 1 + 1) (y := w.heap.size + 1 + 1 + 1) ?_ HRB.out.bel hk h2 h3
                with_reducible exact KeepX.drew (KeepX.set6 (KeepX.set6 (KeepX.refl _ _ _) (.inl rfl)) (.inr rfl))
          · with_reducible exact Below.drew (bl_set6 (bl_set6 HRB.out.bel h2) h3)
        · obtain rfl : er = 0 := by omega
          clear q4
          have HX2 := Lib.hid (show SzP (k + 2 * 164) (n + 2 * 164) (m + k + (k + 2 * 164)) xx from HZR2.out.1)
          have HY2 := Lib.hid (show SzP (k + 2 * 164) (n + 2 * 164) (m + k + (k + 2 * 164)) yy from HZR2.out.2)
          obtain ⟨s0, s1, s2, s3, s4, s5, sf⟩ := blk6' HKZ.out.px
          obtain ⟨t0, t1, t2, t3, t4, t5, tf⟩ := blk6' HKZ.out.py
          go_wp2_with (fail)
          refine (agree_any xx yy _ _ _ _ _ _ wz (HKZ.out.ox.keep (fun k hk => hk.1) (SameOn.refl _ _)) (HKZ.out.oy.keep (fun k hk => hk.1) (SameOn.refl _ _)) (HX2.out.so (by omega)) (HY2.out.st (by omega)) (HY2.out.so (by omega)) (HX2.out.st (by omega))).mono ?_
          rintro e w7 ⟨rfl, hb7⟩
          obtain ⟨ag, hag⟩ : ∃ g, agreeC xx yy = g := ⟨_, rfl⟩
          rw [hag]
          have HAG := Lib.hid hag
          have HK8 := Lib.hid (HKZ.out.step hb7)
          clear hag hb7 HKZ s0 s1 s2 s3 s4 s5 sf t0 t1 t2 t3 t4 t5 tf
          cases ag
          · have HR := Lib.hid (show reconC a b = (a, b, 0, 31) from by rw [HR2.out, HRE.out]; unfold rec3; rw [if_neg (by simp), if_pos HAG.out])
            go_upto_region 17 with (fail)
            have HRB := Lib.hid HK8.out.rb
            have hne1 : w.heap.size ≠ w.heap.size + 1 + 1 ∧ w.heap.size ≠ w.heap.size + 1 + 1 + 1 := by omega
            have hne2 : w.heap.size + 1 ≠ w.heap.size + 1 + 1 ∧ w.heap.size + 1 ≠ w.heap.size + 1 + 1 + 1 := by omega
            have HXA := Lib.hid (box6X HRB.out.pa hne1.1 hne1.2)
            have HXB := Lib.hid (box6X HRB.out.pb hne2.1 hne2.2)
            clear hne1 hne2
            refine wp_region_D (fun j => if j < 6 then 0 else if j < 6 then 1 else 2) (fun w' => KeepX (w.heap.size + 1 + 1) (w.heap.size + 1 + 1 + 1) _ w') (by kernel_rfl) (KeepX.drew (KeepX.refl _ _ _)) (fun hHeld => ?_)
            refine wpD_take (i := 0) (v := ?_) rfl (by kernel_rfl) (fun _ _ _ h => h) (Or.inl ⟨by kernel_rfl, ?_⟩) (by assumption) ?_
            rotate_left
            focus (intro w9 hS9; obtain ⟨z0, z1, z2, z3, z4, z5⟩ := HXA.out w9 hS9; clear hS9; go_simp; (try with_reducible rfl))
            (try simp only [Act.put])
            (try simp only [List.setIfInBounds_toArray])
            (repeat (first | simp only [List.set_cons_succ] | simp only [List.set_cons_zero]))
            refine wpD_take (i := 1) (v := ?_) rfl (by kernel_rfl) (fun _ _ _ h => h) (Or.inl ⟨by kernel_rfl, ?_⟩) (by assumption) ?_
            rotate_left
            focus (intro w9 hS9; obtain ⟨z0, z1, z2, z3, z4, z5⟩ := HXB.out w9 hS9; clear hS9; go_simp; (try with_reducible rfl))
            (try simp only [Act.put])
            (try simp only [List.setIfInBounds_toArray])
            (repeat (first | simp only [List.set_cons_succ] | simp only [List.set_cons_zero]))
            obtain ⟨s0, s1, s2, s3, s4, s5, sf⟩ := blk6' HRB.out.ra
            obtain ⟨t0, t1, t2, t3, t4, t5, tf⟩ := blk6' HRB.out.rb
            refine wpD_ready (rs := [2]) (by kernel_rfl) (by kernel_rfl) ?_
            refine AllReadyD.cons rfl (fun K hK => ?_) AllReadyD.nil
            rw [if_pos (show _ = true by kernel_rfl)]
            go_simp
            clear hHeld
            refine hK.out _ _ ⟨fun _ => (by with_reducible exact KeepX.drew (KeepX.set6 (KeepX.refl _ _ _) (.inl rfl))), fun h => absurd h (by decide)⟩ (fun hHeld0 => ?_)
            have hHeld := hHeld0.1 rfl
            clear hHeld0 hK K
            refine wpD_ready (rs := [3]) (by kernel_rfl) (by kernel_rfl) ?_
            refine AllReadyD.cons rfl (fun K hK => ?_) AllReadyD.nil
            rw [if_pos (show _ = true by kernel_rfl)]
            go_simp
            clear hHeld
            refine hK.out _ _ ⟨fun _ => (by with_reducible exact KeepX.drew (KeepX.set6 (KeepX.set6 (KeepX.refl _ _ _) (.inl rfl)) (.inr rfl))), fun h => absurd h (by decide)⟩ (fun hHeld0 => ?_)
            have hHeld := hHeld0.1 rfl
            clear hHeld0 hK K
            refine wpD_ready (rs := [4]) (by kernel_rfl) (by kernel_rfl) ?_
            refine AllReadyD.cons rfl (fun K hK => ?_) AllReadyD.nil
            rw [if_pos (show _ = true by kernel_rfl)]
            go_simp
            clear hHeld
            refine hK.out _ _ ⟨fun _ => (by with_reducible exact KeepX.drew (KeepX.set6 (KeepX.set6 (KeepX.refl _ _ _) (.inl rfl)) (.inr rfl))), fun h => absurd h (by decide)⟩ (fun hHeld0 => ?_)
            have hHeld := hHeld0.1 rfl
            clear hHeld0 hK K
            refine wpD_ready (rs := [5]) (by kernel_rfl) (by kernel_rfl) ?_
            refine AllReadyD.cons rfl (fun K hK => ?_) AllReadyD.nil
            rw [if_pos (show _ = true by kernel_rfl)]
            go_simp
            clear hHeld
            refine hK.out _ _ ⟨fun _ => (by with_reducible exact KeepX.drew (KeepX.set6 (KeepX.set6 (KeepX.refl _ _ _) (.inl rfl)) (.inr rfl))), fun h => absurd h (by decide)⟩ (fun hHeld0 => ?_)
            have hHeld := hHeld0.1 rfl
            clear hHeld0 hK K
            refine wpD_done (by kernel_rfl) ?_
            go_wp2_with (fail)
            have h2 : w.heap.size ≤ w.heap.size + 1 + 1 := by omega
            have h3 : w.heap.size ≤ w.heap.size + 1 + 1 + 1 := by omega
            refine bodyPost_ret (v := .tuple #[.agg #[.string a.nm, .int .i64 a.out, .int .i64 a.inn, .slice x1 a.wt.length y1, .slice x2 a.ours.length y2, .slice x3 a.thr.length y3], .agg #[.string b.nm, .int .i64 b.out, .int .i64 b.inn, .slice z1 b.wt.length e1, .slice z2 b.ours.length e2, .slice z3 b.thr.length e3], .int .i64 0, .int .i64 31])
              (by simp [results, Tryz.results11, go_sem, s0, s1, s2, s3, s4, s5, t0, t1, t2, t3, t4, t5]) rfl ?_
            refine And.intro ?_ ?_
            · refine rv4_mk HR.out ?_ ?_
              · refine HA.out.keep (fun k hk => ?_) (fun k hk => ?_)
                · refine Nat.lt_of_lt_of_le hk (Below.size (B := w.heap.size) (w := w) ?_)
                  with_reducible exact Below.drew (bl_set6 (bl_set6 HRB.out.bel h2) h3)
                · refine KeepX.at (w := _) (x := w.heap.size + 1 + 1) (y := w.heap.size + 1 + 1 + 1) ?_ HRB.out.bel hk h2 h3
                  with_reducible exact KeepX.drew (KeepX.set6 (KeepX.set6 (KeepX.refl _ _ _) (.inl rfl)) (.inr rfl))
              · refine HB.out.keep (fun k hk => ?_) (fun k hk => ?_)
                · refine Nat.lt_of_lt_of_le hk (Below.size (B := w.heap.size) (w := w) ?_)
                  with_reducible exact Below.drew (bl_set6 (bl_set6 HRB.out.bel h2) h3)
                · refine KeepX.at (w := _) (x := w.heap.size + 1 + 1) (y := w.heap.size + 1 + 1 + 1) ?_ HRB.out.bel hk h2 h3
                  with_reducible exact KeepX.drew (KeepX.set6 (KeepX.set6 (KeepX.refl _ _ _) (.inl rfl)) (.inr rfl))
            · with_reducible exact Below.drew (bl_set6 (bl_set6 HRB.out.bel h2) h3)
          · have HR := Lib.hid (show reconC a b = (xx, yy, (L1.length : Int) + (L2.length : Int), 0) from by rw [HR2.out, HRE.out]; unfold rec3; rw [if_neg (by simp), if_neg (by simp [HAG.out])])
            have hw0 : IntKind.i64.wrap ((L1.length : Int) + (L2.length : Int)) = (L1.length : Int) + (L2.length : Int) := wrap_in (by omega) (by omega)
            have hn1 : b8 ≠ w.heap.size + 1 + 1 ∧ b8 ≠ w.heap.size + 1 + 1 + 1 := by omega
            have hn2 : b8 + 1 ≠ w.heap.size + 1 + 1 ∧ b8 + 1 ≠ w.heap.size + 1 + 1 + 1 := by omega
            have HX8 := Lib.hid (box6X HK8.out.px hn1.1 hn1.2)
            have HX9 := Lib.hid (box6X HK8.out.py hn2.1 hn2.2)
            clear hn1 hn2 HR2 HRE HAG
            go_upto_region 18 with (fail)
            refine wp_region_D (fun j => if j < 11 then 0 else if j < 11 then 1 else 2) (fun w' => KeepX (w.heap.size + 1 + 1) (w.heap.size + 1 + 1 + 1) w7 w') (by kernel_rfl) (KeepX.drew (KeepX.refl _ _ _)) (fun hHeld => ?_)
            refine wpD_take (i := 0) (v := ?_) rfl (by kernel_rfl) (fun _ _ _ h => h) (Or.inl ⟨by kernel_rfl, ?_⟩) (by assumption) ?_
            rotate_left
            focus (intro w9 hS9; obtain ⟨z0, z1, z2, z3, z4, z5⟩ := HX8.out w9 hS9; clear hS9; go_simp; (try with_reducible rfl))
            (try simp only [Act.put])
            (try simp only [List.setIfInBounds_toArray])
            (repeat (first | simp only [List.set_cons_succ] | simp only [List.set_cons_zero]))
            refine wpD_take (i := 1) (v := ?_) rfl (by kernel_rfl) (fun _ _ _ h => h) (Or.inl ⟨by kernel_rfl, ?_⟩) (by assumption) ?_
            rotate_left
            focus (intro w9 hS9; obtain ⟨z0, z1, z2, z3, z4, z5⟩ := HX9.out w9 hS9; clear hS9; go_simp; (try with_reducible rfl))
            (try simp only [Act.put])
            (try simp only [List.setIfInBounds_toArray])
            (repeat (first | simp only [List.set_cons_succ] | simp only [List.set_cons_zero]))
            refine wpD_take (i := 2) (v := ?_) rfl (by kernel_rfl) (fun _ _ _ h => h) (Or.inl ⟨by kernel_rfl, ?_⟩) (by assumption) ?_
            rotate_left
            focus (intro w9 hS9; (try dsimp only at hS9); go_simp; (try with_reducible rfl))
            (try simp only [Act.put])
            (try simp only [List.setIfInBounds_toArray])
            (repeat (first | simp only [List.set_cons_succ] | simp only [List.set_cons_zero]))
            refine wpD_take (i := 3) (v := ?_) rfl (by kernel_rfl) (fun _ _ _ h => h) (Or.inl ⟨by kernel_rfl, ?_⟩) (by assumption) ?_
            rotate_left
            focus (intro w9 hS9; (try dsimp only at hS9); go_simp; (try with_reducible rfl))
            (try simp only [Act.put])
            (try simp only [List.setIfInBounds_toArray])
            (repeat (first | simp only [List.set_cons_succ] | simp only [List.set_cons_zero]))
            refine wpD_take (i := 4) (v := ?_) rfl (by kernel_rfl) (fun _ _ _ h => h) (Or.inl ⟨by kernel_rfl, ?_⟩) (by assumption) ?_
            rotate_left
            focus (intro w9 hS9; (try dsimp only at hS9); go_simp; (try with_reducible rfl))
            (try simp only [Act.put])
            (try simp only [List.setIfInBounds_toArray])
            (repeat (first | simp only [List.set_cons_succ] | simp only [List.set_cons_zero]))
            refine wpD_take (i := 5) (v := ?_) rfl (by kernel_rfl) (fun _ _ _ h => h) (Or.inl ⟨by kernel_rfl, ?_⟩) (by assumption) ?_
            rotate_left
            focus (intro w9 hS9; (try dsimp only at hS9); go_simp; (try with_reducible rfl))
            (try simp only [Act.put])
            (try simp only [List.setIfInBounds_toArray])
            (repeat (first | simp only [List.set_cons_succ] | simp only [List.set_cons_zero]))
            refine wpD_take (i := 6) (v := ?_) rfl (by kernel_rfl) (fun _ _ _ h => h) (Or.inl ⟨by kernel_rfl, ?_⟩) (by assumption) ?_
            rotate_left
            focus (intro w9 hS9; (try dsimp only at hS9); go_simp; (try with_reducible rfl))
            (try simp only [Act.put])
            (try simp only [List.setIfInBounds_toArray])
            (repeat (first | simp only [List.set_cons_succ] | simp only [List.set_cons_zero]))
            obtain ⟨s0, s1, s2, s3, s4, s5, sf⟩ := blk6' HK8.out.rb.ra
            obtain ⟨t0, t1, t2, t3, t4, t5, tf⟩ := blk6' HK8.out.rb.rb
            refine wpD_ready (rs := [7]) (by kernel_rfl) (by kernel_rfl) ?_
            refine AllReadyD.cons rfl (fun K hK => ?_) AllReadyD.nil
            rw [if_pos (show _ = true by kernel_rfl)]
            go_simp
            clear hHeld
            refine hK.out _ _ ⟨fun _ => (by with_reducible exact KeepX.drew (KeepX.set6 (KeepX.refl _ _ _) (.inl rfl))), fun h => absurd h (by decide)⟩ (fun hHeld0 => ?_)
            have hHeld := hHeld0.1 rfl
            clear hHeld0 hK K
            refine wpD_ready (rs := [8]) (by kernel_rfl) (by kernel_rfl) ?_
            refine AllReadyD.cons rfl (fun K hK => ?_) AllReadyD.nil
            rw [if_pos (show _ = true by kernel_rfl)]
            go_simp
            clear hHeld
            refine hK.out _ _ ⟨fun _ => (by with_reducible exact KeepX.drew (KeepX.set6 (KeepX.set6 (KeepX.refl _ _ _) (.inl rfl)) (.inr rfl))), fun h => absurd h (by decide)⟩ (fun hHeld0 => ?_)
            have hHeld := hHeld0.1 rfl
            clear hHeld0 hK K
            refine wpD_ready (rs := [9]) (by kernel_rfl) (by kernel_rfl) ?_
            refine AllReadyD.cons rfl (fun K hK => ?_) AllReadyD.nil
            rw [if_pos (show _ = true by kernel_rfl)]
            go_simp
            clear hHeld
            refine hK.out _ _ ⟨fun _ => (by with_reducible exact KeepX.drew (KeepX.set6 (KeepX.set6 (KeepX.refl _ _ _) (.inl rfl)) (.inr rfl))), fun h => absurd h (by decide)⟩ (fun hHeld0 => ?_)
            have hHeld := hHeld0.1 rfl
            clear hHeld0 hK K
            refine wpD_ready (rs := [10]) (by kernel_rfl) (by kernel_rfl) ?_
            refine AllReadyD.cons rfl (fun K hK => ?_) AllReadyD.nil
            rw [if_pos (show _ = true by kernel_rfl)]
            go_simp
            clear hHeld
            refine hK.out _ _ ⟨fun _ => (by with_reducible exact KeepX.drew (KeepX.set6 (KeepX.set6 (KeepX.refl _ _ _) (.inl rfl)) (.inr rfl))), fun h => absurd h (by decide)⟩ (fun hHeld0 => ?_)
            have hHeld := hHeld0.1 rfl
            clear hHeld0 hK K
            refine wpD_done (by kernel_rfl) ?_
            go_wp2_with (fail)
            have h2 : w.heap.size ≤ w.heap.size + 1 + 1 := by omega
            have h3 : w.heap.size ≤ w.heap.size + 1 + 1 + 1 := by omega
            refine bodyPost_ret (v := .tuple #[.agg #[.string xx.nm, .int .i64 xx.out, .int .i64 xx.inn, .slice v1 xx.wt.length j1, .slice v2 xx.ours.length j2, .slice v3 xx.thr.length j3], .agg #[.string yy.nm, .int .i64 yy.out, .int .i64 yy.inn, .slice o1 yy.wt.length q1, .slice o2 yy.ours.length q2, .slice o3 yy.thr.length q3], .int .i64 ((L1.length : Int) + (L2.length : Int)), .int .i64 0])
              (by simp [results, Tryz.results11, go_sem, s0, s1, s2, s3, s4, s5, t0, t1, t2, t3, t4, t5]) rfl ?_
            refine And.intro ?_ ?_
            · refine rv4_mk HR.out ?_ ?_
              · refine HK8.out.ox.keep (fun k hk => ?_) (fun k hk => ?_)
                · have := hk.1; simp; omega
                · refine KeepX.out (w := w7) (x := w.heap.size + 1 + 1) (y := w.heap.size + 1 + 1 + 1) ?_ k (by have := hk.2.1; omega) (by have := hk.2.1; omega)
                  with_reducible exact KeepX.drew (KeepX.set6 (KeepX.set6 (KeepX.refl _ _ _) (.inl rfl)) (.inr rfl))
              · refine HK8.out.oy.keep (fun k hk => ?_) (fun k hk => ?_)
                · have := hk.1; simp; omega
                · refine KeepX.out (w := w7) (x := w.heap.size + 1 + 1) (y := w.heap.size + 1 + 1 + 1) ?_ k (by have := hk.2.1; omega) (by have := hk.2.1; omega)
                  with_reducible exact KeepX.drew (KeepX.set6 (KeepX.set6 (KeepX.refl _ _ _) (.inl rfl)) (.inr rfl))
            · with_reducible exact Below.drew (bl_set6 (bl_set6 HK8.out.rb.bel h2) h3)
end Go.Proofs.YtmjbbpappigngaaGreat
