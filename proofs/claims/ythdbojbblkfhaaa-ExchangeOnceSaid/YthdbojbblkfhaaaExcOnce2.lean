/-
  Layer 43 (exchange): the closure of the law ExchangeOnce: one file arrives.
-/
import Derived.Test.YthdbojbblkfhaaaExcOnce
namespace Go.Proofs.Ythdbojbblkfhaaa
open Go.RowKit Go.Tw Go.Tw.Exc
def OnceSt (W : World) (b5 b7 b9 : Nat) (a : Par) (F : List Fil) (a1 a2 a3 vf : Value) (k : Nat) (w : World) : Prop := ∃ b u1 u2 u3, OB W b5 b7 b9 a b F a1 a2 a3 u1 u2 u3 vf w ∧ Got F k b
/-- what Receive has returned lies in the box b6 -/
structure RC (w : World) (b5 b7 b9 : Nat) (vf : Value) (q : Par) (z1 z2 z3 : Value) (b6 : Nat) (wx : World) : Prop where
  lo : w.heap.size ≤ b6
  bx : wx.heap[b6]? = some (.cells #[.string q.nm, .int .i64 q.out, .int .i64 q.inn, z1, z2, z3] 25 (0, 0))
  bel : Below w.heap.size w wx
  ok : ParOk (fun k => SO b5 b7 b9 vf w k ∨ (w.heap.size ≤ k ∧ k < wx.heap.size)) wx q z1 z2 z3
section
variable {w wp w6 : World} {b5 b7 b9 b6 : Nat} {q : Par} {vf z1 z2 z3 : Value}
theorem RC.mk_alloc (hb : Below w.heap.size w w6) (hp : w.heap.size ≤ wp.heap.size) (hq : ParOk (fun k => SO b5 b7 b9 vf w k ∨ (wp.heap.size ≤ k ∧ k < w6.heap.size)) w6 q z1 z2 z3) :
    RC w b5 b7 b9 vf q z1 z2 z3 w6.heap.size (w6.alloc (.cells #[.string q.nm, .int .i64 q.out, .int .i64 q.inn, z1, z2, z3] 25)) := by
  have hz := hb.size
  refine ⟨hb.size, alloc1_0 _ _, bl_alloc hb _, hq.keep (fun k hk => ?_) (fun k hk => Below.heap_alloc _ _ _ ?_)⟩
  · rcases hk with h | h
    · exact .inl h
    · exact .inr ⟨by omega, by simp; omega⟩
  · rcases hk with h | h
    · have := h.1; omega
    · exact h.2
theorem RC.mk_set {y0 y1 y2 y3 y4 y5 : Value} (hb : Below w.heap.size w w6) (hp : w.heap.size ≤ wp.heap.size) (h6 : w.heap.size ≤ b6) (h6' : b6 < wp.heap.size) (hx : w6.heap[b6]? = some (.cells #[y0, y1, y2, y3, y4, y5] 25 (0, 0)))
    (hq : ParOk (fun k => SO b5 b7 b9 vf w k ∨ (wp.heap.size ≤ k ∧ k < w6.heap.size)) w6 q z1 z2 z3) :
    RC w b5 b7 b9 vf q z1 z2 z3 b6 ((((((w6.setCell ⟨b6, 0, none⟩ (.string q.nm)).setCell ⟨b6, 1, none⟩ (.int .i64 q.out)).setCell ⟨b6, 2, none⟩ (.int .i64 q.inn)).setCell ⟨b6, 3, none⟩ z1).setCell ⟨b6, 4, none⟩ z2).setCell ⟨b6, 5, none⟩ z3) := by
  have hz := hb.size
  refine ⟨h6, set6_same hx, bl_set (bl_set (bl_set (bl_set (bl_set (bl_set hb _ h6) _ h6) _ h6) _ h6) _ h6) _ h6, hq.keep (fun k hk => ?_) (fun k hk => set6_ne ?_)⟩
  · rcases hk with h | h
    · exact .inl h
    · exact .inr ⟨by omega, by simpa using h.2⟩
  · rcases hk with h | h
    · have := h.1; omega
    · omega
end
theorem box1 {wb : World} {b : Nat} {t : TypeId} {a0 : Value} (h : wb.heap[b]? = some (.cells #[a0] t (0, 0))) : ∀ w', Below wb.heap.size wb w' → w'.cell? ⟨b, 0, none⟩ = some a0 := fun w' hb =>
  (blk1 ((hb.block b (lt_of_heap h)).trans h)).1
set_option maxRecDepth 100000 in
set_option maxHeartbeats 8000000 in
theorem recvO_any (W : World) (b5 b7 b9 : Nat) (a : Par) (F : List Fil) (a1 a2 a3 vf : Value) (k i : Nat) (w : World) (h : OnceSt W b5 b7 b9 a F a1 a2 a3 vf k w) (hF : FilesOk F) (hn : F.length ≤ 10) (hi : i < F.length) :
    Calls Try.prog 28 #[.int .i64 i, .pointer (some ⟨b7, 0, none⟩), .pointer (some ⟨b9, 0, none⟩)] w fun e w' => e = .returned (.bool true) ∧ ∃ k', OnceSt W b5 b7 b9 a F a1 a2 a3 vf k' w' ∧ k ≤ k' ∧ (i ≤ k → i + 1 ≤ k') := by
  obtain ⟨b, u1, u2, u3, hO, hG⟩ := h
  obtain ⟨x1, y1, _, _, rfl, -⟩ := id hO.okb.wt
  obtain ⟨x2, y2, _, _, rfl, -⟩ := id hO.okb.ours
  obtain ⟨x3, y3, _, _, rfl, -⟩ := id hO.okb.thr
  obtain ⟨fo, fc, bf, off, rfl, hf1, hf2, ho⟩ := fil_open hO.own.sl
  obtain ⟨rfl, -, hbf, hv, hok, q0, q1, q2, q3⟩ := ho w (SameOn.refl _ _) i hi
  have hsl : SlIs tRec (fun k => SO b5 b7 b9 (.slice (some ⟨bf, off, none⟩) F.length fc) w k ∨ (Value.slice (some ⟨bf, off, none⟩) F.length fc).ownBlock = some k) w hv F[i].rs := hok.rs
  obtain ⟨av, cv, _, _, rfl, -⟩ := id hsl
  have HFB := Lib.hid (show ∀ w', Below w.heap.size w w' → w'.cell? ⟨bf, off + i * 4, none⟩ = some (.string F[i].fr) ∧ w'.cell? ⟨bf, off + i * 4 + 1, none⟩ = some (.string F[i].to) ∧ w'.cell? ⟨bf, off + i * 4 + 2, none⟩ = some (.int .i64 F[i].sq) ∧ w'.cell? ⟨bf, off + i * 4 + 3, none⟩ = some (.slice av F[i].rs.length cv) from fun w' hb =>
    ⟨(hb.cell (p := ⟨bf, off + i * 4, none⟩) hbf).trans q0, (hb.cell (p := ⟨bf, off + i * 4 + 1, none⟩) hbf).trans q1, (hb.cell (p := ⟨bf, off + i * 4 + 2, none⟩) hbf).trans q2, (hb.cell (p := ⟨bf, off + i * 4 + 3, none⟩) hbf).trans q3⟩)
  have HFO := Lib.hid (show FilOk (· < w.heap.size) w F[i] (.slice av F[i].rs.length cv) from hok.keep (fun k hk => by
    rcases hk with q | q
    · exact q.1
    · exact (hO.own.own_lt k q).2) (SameOn.refl _ _))
  have HO := Lib.hid hO
  have HG := Lib.hid hG
  have HBX := Lib.hid (box6A hO.pb)
  have HF9 := Lib.hid (box1 hO.pf)
  obtain ⟨sz1, sz2, sz3⟩ := hG.sizes hF hn
  have HSM := Lib.hid (show SmallP ({ b with nm := sSouth } : Par) from ⟨(by show b.wt.length ≤ 100000; omega), (fun f hf => by
    have this : f ∈ b.wt := hf
    rw [List.eq_nil_of_length_eq_zero sz1] at this
    cases this), (by show b.ours.length ≤ 100000; omega), (by show b.thr.length ≤ 100000; omega)⟩)
  obtain ⟨⟨rq, rer⟩, hrq⟩ : ∃ q, recvC { b with nm := sSouth } F[i] = q := ⟨_, rfl⟩
  have HRQ := Lib.hid hrq
  have HRV := Lib.hid (show ∀ W', Below w.heap.size w W' → Calls Try.prog 22 #[.agg #[.string sSouth, .int .i64 b.out, .int .i64 b.inn, .slice x1 b.wt.length y1, .slice x2 b.ours.length y2, .slice x3 b.thr.length y3], .agg #[.string F[i].fr, .string F[i].to, .int .i64 F[i].sq, .slice av F[i].rs.length cv]] W' fun e w' => PEs (SO b5 b7 b9 (.slice (some ⟨bf, off, none⟩) F.length fc) w) W' w' e (rq, rer) ∧ Below W'.heap.size W' w' from fun W' hb => by
    rw [← hrq]
    exact recv_gen (SO b5 b7 b9 (.slice (some ⟨bf, off, none⟩) F.length fc) w) { b with nm := sSouth } F[i] _ _ _ _ W' ⟨(show sSouth.size ≤ maxLen by decide), HO.out.okb.out, HO.out.okb.inn, HO.out.okb.wt.keep (fun _ h => h) (fun k q => hb.block k q.1), HO.out.okb.ours.keep (fun _ h => h) (fun k q => hb.block k q.1), HO.out.okb.thr.keep (fun _ h => h) (fun k q => hb.block k q.1)⟩ (fun k q => Nat.lt_of_lt_of_le q.1 hb.size) HSM.out (HFO.out.step hb))
  have HWAY := got_recv (hG.nm sSouth) hF hn rfl hi
  rw [hrq] at HWAY
  replace HWAY := Lib.hid HWAY
  clear hrq
  have i0 : (0 : Int) ≤ (i : Int) := by omega
  have i1 : (i : Int) < (F.length : Int) := by omega
  have HINN := Lib.hid hG.inn
  clear hO hG ho hok hsl q0 q1 q2 q3 sz1 sz2 sz3 hf1 hf2
  obtain ⟨c0, c1, c2, c3, c4, c5⟩ := HBX.out w (Below.refl _ _)
  rw [HINN.out] at c2
  have HW := Lib.hid (Below.refl w.heap.size w)
  go_enter Try.func28, Try.ntmps28
  go_upto_region 2 with (fail)
  go_cut [6, 7] (fun v6 v7 wx => ∃ (b6 : Nat) (q : Par) (er : Int) (z1 z2 z3 : Option Addr) (d1 d2 d3 : Nat), v6 = .pointer (some ⟨b6, 0, none⟩) ∧ v7 = .int .i64 er ∧ (rq, rer) = (q, er) ∧ RC w b5 b7 b9 (.slice (some ⟨bf, off, none⟩) F.length fc) q (.slice z1 q.wt.length d1) (.slice z2 q.ours.length d2) (.slice z3 q.thr.length d3) b6 wx)
  case first =>
    clear c0 c1 c2 c3 c4 c5
    refine wp_region_E 12 (fun w' => Below w.heap.size w w') (by kernel_rfl) ((by (repeat (first | (with_reducible exact Below.refl _ _) | (with_reducible exact HW.out) | (with_reducible apply bl_drewN) | (with_reducible apply bl_alloc) | (with_reducible apply Below.drew))); done)) (fun hHeld => ?_)
    refine wpE_take (i := 0) (v := ?_) rfl (by kernel_rfl) (fun _ _ _ h => h) (Or.inl ⟨by kernel_rfl, ?_⟩) (by assumption) ?_
    rotate_left
    focus (intro w9 hS9; obtain ⟨z0, z1, z2, z3, z4, z5⟩ := HBX.out w9 hS9; clear hS9; go_simp; (try with_reducible rfl))
    (try simp only [Act.put])
    (try simp only [List.setIfInBounds_toArray])
    (repeat (first | simp only [List.set_cons_succ] | simp only [List.set_cons_zero]))
    refine wpE_take (i := 2) (v := ?_) rfl (by kernel_rfl) (fun _ _ _ h => h) (Or.inl ⟨by kernel_rfl, ?_⟩) (by assumption) ?_
    rotate_left
    focus (intro w9 hS9; have z0 := HF9.out w9 hS9; clear hS9; go_simp; (try with_reducible rfl))
    (try simp only [Act.put])
    (try simp only [List.setIfInBounds_toArray])
    (repeat (first | simp only [List.set_cons_succ] | simp only [List.set_cons_zero]))
    refine wpE_take (i := 3) (v := ?_) rfl (by kernel_rfl) (fun _ _ _ h => h) (Or.inl ⟨by kernel_rfl, ?_⟩) (by assumption) ?_
    rotate_left
    focus (intro w9 hS9; (try dsimp only at hS9); go_simp; (try with_reducible rfl))
    (try simp only [Act.put])
    (try simp only [List.setIfInBounds_toArray])
    (repeat (first | simp only [List.set_cons_succ] | simp only [List.set_cons_zero]))
    refine wpE_take (i := 4) (v := ?_) rfl (by kernel_rfl) (fun _ _ _ h => h) (Or.inl ⟨by kernel_rfl, ?_⟩) (by assumption) ?_
    rotate_left
    focus (intro w9 hS9; (try dsimp only at hS9); go_simp; (try with_reducible rfl))
    (try simp only [Act.put])
    (try simp only [List.setIfInBounds_toArray])
    (repeat (first | simp only [List.set_cons_succ] | simp only [List.set_cons_zero]))
    refine wpE_take (i := 5) (v := ?_) rfl (by kernel_rfl) (fun _ _ _ h => h) (Or.inl ⟨by kernel_rfl, ?_⟩) (by assumption) ?_
    rotate_left
    focus (intro w9 hS9; obtain ⟨z0, z1, z2, z3⟩ := HFB.out w9 hS9; clear hS9; go_simp; (try with_reducible rfl))
    (try simp only [Act.put])
    (try simp only [List.setIfInBounds_toArray])
    (repeat (first | simp only [List.set_cons_succ] | simp only [List.set_cons_zero]))
    refine wpE_ready (rs := [1, 10]) (by kernel_rfl) (by kernel_rfl) ?_
    refine AllReadyE.cons rfl (fun K hK => ?_) (AllReadyE.cons rfl (fun K hK => ?_) AllReadyE.nil)
    · rw [if_pos (show _ = true by kernel_rfl)]
      go_simp
      go_wp2_with (
        go_at_call 29
        refine (partnerL_any b _ _ _ _ _ _ _ _ _ sSouth _).mono ?_
        rintro e wp ⟨rfl, hbp⟩
        have HP1 := Lib.hid (show Below w.heap.size w wp from by (refine bl_trans ?_ hbp; exact (by (repeat (first | (with_reducible exact Below.refl _ _) | (with_reducible exact HW.out) | (with_reducible apply bl_drewN) | (with_reducible apply bl_alloc) | (with_reducible apply Below.drew))); done)))
        have hzp : w.heap.size ≤ wp.heap.size := HP1.out.size
        clear HW hbp
        have HW := HP1
        clear HP1)
      clear hHeld
      refine hK.out _ _ (HW.out) (fun hHeld => ?_)
      clear hK K
      refine wpE_ready (rs := [6, 10]) (by kernel_rfl) (by kernel_rfl) ?_
      refine AllReadyE.cons rfl (fun K hK => ?_) (AllReadyE.cons rfl (fun K hK => ?_) AllReadyE.nil)
      · rw [if_pos (show _ = true by kernel_rfl)]
        go_simp
        go_wp2_with (fail)
        refine (HRV.out _ (by (repeat (first | (with_reducible exact Below.refl _ _) | (with_reducible exact HW.out) | (with_reducible apply bl_drewN) | (with_reducible apply bl_alloc) | (with_reducible apply Below.drew))); done)).mono ?_
        rintro e w6 ⟨he, hb6⟩
        have HP1 := Lib.hid (show Below w.heap.size w w6 from by (refine bl_trans ?_ hb6; exact (by (repeat (first | (with_reducible exact Below.refl _ _) | (with_reducible exact HW.out) | (with_reducible apply bl_drewN) | (with_reducible apply bl_alloc) | (with_reducible apply Below.drew))); done)))
        skip
        clear HW hb6
        have HW := HP1
        clear HP1
        obtain ⟨z1, d1, z2, d2, z3, d3, rfl, hq⟩ := pes_form he
        have HQ := Lib.hid hq
        clear he hq
        clear hHeld
        refine hK.out _ _ (HW.out) (fun hHeld => ?_)
        clear hK K
        refine wpE_take (i := 7) (v := ?_) rfl (by kernel_rfl) (fun _ _ _ h => h) (Or.inl ⟨by kernel_rfl, ?_⟩) (by assumption) ?_
        rotate_left
        focus (intro w9 hS9; (try dsimp only at hS9); go_simp; (try with_reducible rfl))
        (try simp only [Act.put])
        (try simp only [List.setIfInBounds_toArray])
        (repeat (first | simp only [List.set_cons_succ] | simp only [List.set_cons_zero]))
        refine wpE_take (i := 8) (v := ?_) rfl (by kernel_rfl) (fun _ _ _ h => h) (Or.inl ⟨by kernel_rfl, ?_⟩) (by assumption) ?_
        rotate_left
        focus (intro w9 hS9; (try dsimp only at hS9); go_simp; (try with_reducible rfl))
        (try simp only [Act.put])
        (try simp only [List.setIfInBounds_toArray])
        (repeat (first | simp only [List.set_cons_succ] | simp only [List.set_cons_zero]))
        refine wpE_take (i := 9) (v := ?_) rfl (by kernel_rfl) (fun _ _ _ h => h) (Or.inl ⟨by kernel_rfl, ?_⟩) (by assumption) ?_
        rotate_left
        focus (intro w9 hS9; (try dsimp only at hS9); go_simp; (try with_reducible rfl))
        (try simp only [Act.put])
        (try simp only [List.setIfInBounds_toArray])
        (repeat (first | simp only [List.set_cons_succ] | simp only [List.set_cons_zero]))
        refine wpE_ready (rs := [10]) (by kernel_rfl) (by kernel_rfl) ?_
        refine AllReadyE.cons rfl (fun K hK => ?_) AllReadyE.nil
        rw [if_pos (show _ = true by kernel_rfl)]
        go_simp
        clear hHeld
        refine hK.out _ _ ((by (repeat (first | (with_reducible exact Below.refl _ _) | (with_reducible exact HW.out) | (with_reducible apply bl_drewN) | (with_reducible apply bl_alloc) | (with_reducible apply Below.drew))); done)) (fun hHeld => ?_)
        clear hK K
        refine wpE_ready (rs := [11]) (by kernel_rfl) (by kernel_rfl) ?_
        refine AllReadyE.cons rfl (fun K hK => ?_) AllReadyE.nil
        rw [if_pos (show _ = true by kernel_rfl)]
        go_simp
        clear hHeld
        refine hK.out _ _ ((by (repeat (first | (with_reducible exact Below.refl _ _) | (with_reducible exact HW.out) | (with_reducible apply bl_drewN) | (with_reducible apply bl_alloc) | (with_reducible apply Below.drew))); done)) (fun hHeld => ?_)
        clear hK K
        clear hHeld
        refine wpE_out (by kernel_rfl) ?_
        refine wpAny_ready (rs := [12]) (by kernel_rfl) (by simp) ?_
        refine AllReady.cons rfl (fun K hK => ?_) AllReady.nil
        rw [if_pos (show _ = true by kernel_rfl)]
        go_simp
        refine hK _ _ ?_
        clear hK K
        refine wpAny_done (by kernel_rfl) ?_ _
        go_wp2_with (fail)
        go_meet
        exact ⟨_, rq, rer, _, _, _, _, _, _, rfl, rfl, rfl, RC.mk_alloc HW.out hzp HQ.out⟩
      · rw [if_pos (show _ = true by kernel_rfl)]
        go_simp
        clear hHeld
        refine hK.out _ _ ((by (repeat (first | (with_reducible exact Below.refl _ _) | (with_reducible exact HW.out) | (with_reducible apply bl_drewN) | (with_reducible apply bl_alloc) | (with_reducible apply Below.drew))); done)) (fun hHeld => ?_)
        clear hK K
        refine wpE_ready (rs := [6]) (by kernel_rfl) (by kernel_rfl) ?_
        refine AllReadyE.cons rfl (fun K hK => ?_) AllReadyE.nil
        rw [if_pos (show _ = true by kernel_rfl)]
        go_simp
        go_wp2_with (fail)
        refine (HRV.out _ (by (repeat (first | (with_reducible exact Below.refl _ _) | (with_reducible exact HW.out) | (with_reducible apply bl_drewN) | (with_reducible apply bl_alloc) | (with_reducible apply Below.drew))); done)).mono ?_
        rintro e w6 ⟨he, hb6⟩
        have HP1 := Lib.hid (show Below w.heap.size w w6 from by (refine bl_trans ?_ hb6; exact (by (repeat (first | (with_reducible exact Below.refl _ _) | (with_reducible exact HW.out) | (with_reducible apply bl_drewN) | (with_reducible apply bl_alloc) | (with_reducible apply Below.drew))); done)))
        have m0 := Go.Tw.Below.at_old hb6 (alloc1_0 wp _)
        clear HW hb6
        have HW := HP1
        clear HP1
        obtain ⟨z1, d1, z2, d2, z3, d3, rfl, hq⟩ := pes_form he
        have HQ := Lib.hid hq
        clear he hq
        clear hHeld
        refine hK.out _ _ (HW.out) (fun hHeld => ?_)
        clear hK K
        refine wpE_take (i := 7) (v := ?_) rfl (by kernel_rfl) (fun _ _ _ h => h) (Or.inl ⟨by kernel_rfl, ?_⟩) (by assumption) ?_
        rotate_left
        focus (intro w9 hS9; (try dsimp only at hS9); go_simp; (try with_reducible rfl))
        (try simp only [Act.put])
        (try simp only [List.setIfInBounds_toArray])
        (repeat (first | simp only [List.set_cons_succ] | simp only [List.set_cons_zero]))
        refine wpE_take (i := 8) (v := ?_) rfl (by kernel_rfl) (fun _ _ _ h => h) (Or.inl ⟨by kernel_rfl, ?_⟩) (by assumption) ?_
        rotate_left
        focus (intro w9 hS9; (try dsimp only at hS9); go_simp; (try with_reducible rfl))
        (try simp only [Act.put])
        (try simp only [List.setIfInBounds_toArray])
        (repeat (first | simp only [List.set_cons_succ] | simp only [List.set_cons_zero]))
        refine wpE_take (i := 9) (v := ?_) rfl (by kernel_rfl) (fun _ _ _ h => h) (Or.inl ⟨by kernel_rfl, ?_⟩) (by assumption) ?_
        rotate_left
        focus (intro w9 hS9; (try dsimp only at hS9); go_simp; (try with_reducible rfl))
        (try simp only [Act.put])
        (try simp only [List.setIfInBounds_toArray])
        (repeat (first | simp only [List.set_cons_succ] | simp only [List.set_cons_zero]))
        obtain ⟨y0, y1, y2, y3, y4, y5, yf⟩ := blk6' m0
        have M0 := Lib.hid m0
        clear m0
        refine wpE_ready (rs := [11]) (by kernel_rfl) (by kernel_rfl) ?_
        refine AllReadyE.cons rfl (fun K hK => ?_) AllReadyE.nil
        rw [if_pos (show _ = true by kernel_rfl)]
        go_simp
        clear hHeld
        refine hK.out _ _ ((by (repeat (first | (with_reducible exact HW.out) | (with_reducible apply bl_drewN) | (with_reducible apply bl_alloc) | ((with_reducible refine bl_set ?_ _ ?_); rotate_left; focus (first | exact Nat.le_refl _ | (simp; done) | (simp; omega))))))) (fun hHeld => ?_)
        clear hK K
        clear hHeld
        refine wpE_out (by kernel_rfl) ?_
        refine wpAny_ready (rs := [12]) (by kernel_rfl) (by simp) ?_
        refine AllReady.cons rfl (fun K hK => ?_) AllReady.nil
        rw [if_pos (show _ = true by kernel_rfl)]
        go_simp
        refine hK _ _ ?_
        clear hK K
        refine wpAny_done (by kernel_rfl) ?_ _
        go_wp2_with (fail)
        go_meet
        exact ⟨_, rq, rer, _, _, _, _, _, _, rfl, rfl, rfl, RC.mk_set HW.out (by simp; omega) hzp (by simp) M0.out HQ.out⟩
    · rw [if_pos (show _ = true by kernel_rfl)]
      go_simp
      clear hHeld
      refine hK.out _ _ ((by (repeat (first | (with_reducible exact Below.refl _ _) | (with_reducible exact HW.out) | (with_reducible apply bl_drewN) | (with_reducible apply bl_alloc) | (with_reducible apply Below.drew))); done)) (fun hHeld => ?_)
      clear hK K
      refine wpE_ready (rs := [1]) (by kernel_rfl) (by kernel_rfl) ?_
      refine AllReadyE.cons rfl (fun K hK => ?_) AllReadyE.nil
      rw [if_pos (show _ = true by kernel_rfl)]
      go_simp
      go_wp2_with (
        go_at_call 29
        refine (partnerL_any b _ _ _ _ _ _ _ _ _ sSouth _).mono ?_
        rintro e wp ⟨rfl, hbp⟩
        have HP1 := Lib.hid (show Below w.heap.size w wp from by (refine bl_trans ?_ hbp; exact (by (repeat (first | (with_reducible exact Below.refl _ _) | (with_reducible exact HW.out) | (with_reducible apply bl_drewN) | (with_reducible apply bl_alloc) | (with_reducible apply Below.drew))); done)))
        have hzp : w.heap.size + 1 ≤ wp.heap.size ∧ wp.heap[w.heap.size]? = _ := ⟨by have := hbp.size; simpa using this, Go.Tw.Below.at_old hbp (alloc1_0 w.drew _)⟩
        clear HW hbp
        have HW := HP1
        clear HP1)
      clear hHeld
      refine hK.out _ _ (HW.out) (fun hHeld => ?_)
      clear hK K
      refine wpE_ready (rs := [6]) (by kernel_rfl) (by kernel_rfl) ?_
      refine AllReadyE.cons rfl (fun K hK => ?_) AllReadyE.nil
      rw [if_pos (show _ = true by kernel_rfl)]
      go_simp
      go_wp2_with (fail)
      refine (HRV.out _ (by (repeat (first | (with_reducible exact Below.refl _ _) | (with_reducible exact HW.out) | (with_reducible apply bl_drewN) | (with_reducible apply bl_alloc) | (with_reducible apply Below.drew))); done)).mono ?_
      rintro e w6 ⟨he, hb6⟩
      have HP1 := Lib.hid (show Below w.heap.size w w6 from by (refine bl_trans ?_ hb6; exact (by (repeat (first | (with_reducible exact Below.refl _ _) | (with_reducible exact HW.out) | (with_reducible apply bl_drewN) | (with_reducible apply bl_alloc) | (with_reducible apply Below.drew))); done)))
      have m0 := Go.Tw.Below.at_old hb6 hzp.2
      clear HW hb6
      have HW := HP1
      clear HP1
      obtain ⟨z1, d1, z2, d2, z3, d3, rfl, hq⟩ := pes_form he
      have HQ := Lib.hid hq
      clear he hq
      clear hHeld
      refine hK.out _ _ (HW.out) (fun hHeld => ?_)
      clear hK K
      refine wpE_take (i := 7) (v := ?_) rfl (by kernel_rfl) (fun _ _ _ h => h) (Or.inl ⟨by kernel_rfl, ?_⟩) (by assumption) ?_
      rotate_left
      focus (intro w9 hS9; (try dsimp only at hS9); go_simp; (try with_reducible rfl))
      (try simp only [Act.put])
      (try simp only [List.setIfInBounds_toArray])
      (repeat (first | simp only [List.set_cons_succ] | simp only [List.set_cons_zero]))
      refine wpE_take (i := 8) (v := ?_) rfl (by kernel_rfl) (fun _ _ _ h => h) (Or.inl ⟨by kernel_rfl, ?_⟩) (by assumption) ?_
      rotate_left
      focus (intro w9 hS9; (try dsimp only at hS9); go_simp; (try with_reducible rfl))
      (try simp only [Act.put])
      (try simp only [List.setIfInBounds_toArray])
      (repeat (first | simp only [List.set_cons_succ] | simp only [List.set_cons_zero]))
      refine wpE_take (i := 9) (v := ?_) rfl (by kernel_rfl) (fun _ _ _ h => h) (Or.inl ⟨by kernel_rfl, ?_⟩) (by assumption) ?_
      rotate_left
      focus (intro w9 hS9; (try dsimp only at hS9); go_simp; (try with_reducible rfl))
      (try simp only [Act.put])
      (try simp only [List.setIfInBounds_toArray])
      (repeat (first | simp only [List.set_cons_succ] | simp only [List.set_cons_zero]))
      obtain ⟨y0, y1, y2, y3, y4, y5, yf⟩ := blk6' m0
      have M0 := Lib.hid m0
      have hzq := hzp.1
      clear m0 hzp
      refine wpE_ready (rs := [11]) (by kernel_rfl) (by kernel_rfl) ?_
      refine AllReadyE.cons rfl (fun K hK => ?_) AllReadyE.nil
      rw [if_pos (show _ = true by kernel_rfl)]
      go_simp
      clear hHeld
      refine hK.out _ _ ((by (repeat (first | (with_reducible exact HW.out) | (with_reducible apply bl_drewN) | (with_reducible apply bl_alloc) | ((with_reducible refine bl_set ?_ _ ?_); rotate_left; focus (first | exact Nat.le_refl _ | (simp; done) | (simp; omega))))))) (fun hHeld => ?_)
      clear hK K
      clear hHeld
      refine wpE_out (by kernel_rfl) ?_
      refine wpAny_ready (rs := [12]) (by kernel_rfl) (by simp) ?_
      refine AllReady.cons rfl (fun K hK => ?_) AllReady.nil
      rw [if_pos (show _ = true by kernel_rfl)]
      go_simp
      refine hK _ _ ?_
      clear hK K
      refine wpAny_done (by kernel_rfl) ?_ _
      go_wp2_with (fail)
      go_meet
      exact ⟨_, rq, rer, _, _, _, _, _, _, rfl, rfl, rfl, RC.mk_set HW.out (by omega) (Nat.le_refl _) (by omega) M0.out HQ.out⟩
  case rest =>
    obtain ⟨b6, q, er, z1, z2, z3, d1, d2, d3, rfl, rfl, hqe, hR⟩ := hcut
    simp only [Prod.mk.injEq] at hqe
    obtain ⟨hqe1, rfl⟩ := hqe
    obtain rfl : q = rq := hqe1.symm
    have HR := Lib.hid hR
    have hb7 : b7 < w.heap.size := lt_of_heap HO.out.pb
    have hb6 := hR.lo
    have ne1 : ¬ b6 = b7 := by omega
    have ne2 : ¬ b7 = b6 := by omega
    have HFIN := Lib.hid (HO.out.setB hR.bel hR.ok)
    obtain ⟨e0, e1, e2, e3, e4, e5, ef⟩ := blk6' hR.bx
    have m7 := Go.Tw.Below.at_old hR.bel HO.out.pb
    clear hR c0 c1 c2 c3 c4 c5 HFB HFO HBX HF9 HSM HRV HW HRQ
    obtain ⟨c0, c1, c2, c3, c4, c5, cf⟩ := blk6' m7
    have g0 : IntKind.i64.wrap ((i : Int) + 1) = (i : Int) + 1 := wrap_in (by omega) (by omega)
    clear m7
    rcases HWAY.out with ⟨w1, w2⟩ | ⟨w1, c, w2, w3, w4⟩ | ⟨w1, w2⟩
    · simp only [Prod.mk.injEq] at w2
      obtain ⟨w2, rfl⟩ := w2
      have HQG := Lib.hid (show Got F k q by rw [w2]; exact HG.out.nm _)
      have hqi : q.inn = (k : Int) + 1 := HQG.out.inn
      rw [hqi] at e2
      have g1 : (k : Int) + 1 < (i : Int) + 1 := by omega
      have g2 : (((k : Int) + 1) != ((k : Int) + 1)) = false := by simp
      have g3 : (((i : Int) + 1) == ((k : Int) + 1)) = false := by simp; omega
      have g4 : decide (((i : Int) + 1) < ((k : Int) + 1)) = false := by simp; omega
      rw [hqi] at HFIN
      have HW1 := Lib.hid w1
      clear w1 w2 hqi HWAY
      go_wp2_with (fail)
      go_ret
      exact ⟨rfl, k, ⟨q, _, _, _, HFIN.out, HQG.out⟩, Nat.le_refl _, fun h => by have := HW1.out; omega⟩
    · subst w1
      simp only [Prod.mk.injEq] at w2
      obtain ⟨w2, rfl⟩ := w2
      subst w2
      have HQG := Lib.hid w4
      rw [w3] at e2 HFIN
      have g1 : decide ((k : Int) + 1 < (k : Int) + 1) = false := by simp
      have g2 : (((k : Int) + 2) != ((k : Int) + 1 + 1)) = false := by simp; omega
      have g3 : (((k : Int) + 1) == ((k : Int) + 1)) = true := by simp
      have g4 : IntKind.i64.wrap ((k : Int) + 1 + 1) = (k : Int) + 1 + 1 := wrap_in (by omega) (by omega)
      clear w3 w4 HWAY
      go_wp2_with (fail)
      go_ret
      exact ⟨rfl, k + 1, ⟨q, _, _, _, HFIN.out, HQG.out⟩, Nat.le_succ _, by first | exact fun _ => Nat.le_refl _ | exact Nat.le_refl _⟩
    · simp only [Prod.mk.injEq] at w2
      obtain ⟨w2, rfl⟩ := w2
      have HQG := Lib.hid (show Got F k q by rw [w2]; exact HG.out.nm _)
      have hqi : q.inn = (k : Int) + 1 := HQG.out.inn
      rw [hqi] at e2
      have g1 : decide ((k : Int) + 1 < (i : Int) + 1) = false := by simp; omega
      have g2 : (((k : Int) + 1) != ((k : Int) + 1)) = false := by simp
      have g3 : (((i : Int) + 1) == ((k : Int) + 1)) = false := by simp; omega
      have g4 : ((i : Int) + 1) < ((k : Int) + 1) := by omega
      rw [hqi] at HFIN
      have HW1 := Lib.hid w1
      clear w1 w2 hqi HWAY
      go_wp2_with (fail)
      go_ret
      exact ⟨rfl, k, ⟨q, _, _, _, HFIN.out, HQG.out⟩, Nat.le_refl _, fun h => by have := HW1.out; omega⟩
end Go.Proofs.Ythdbojbblkfhaaa
