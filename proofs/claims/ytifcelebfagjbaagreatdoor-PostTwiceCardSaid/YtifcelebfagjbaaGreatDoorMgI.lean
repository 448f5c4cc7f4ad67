/-
  Layer proofs, merged: PoRf PoG PoRg PoG2 HeldD PoEy.
-/
import Derived.Test.YtifcelebfagjbaaGreatDoorMgH
import Derived.Test.YtifcelebfagjbaaGreatDoorMgG
namespace Go.Tw.Po
open Go.RowKit Go.Tw Go.Sort Go.Tw.Ord
theorem balL_snoc (a : ByteArray) (es : List Ent) (e : Ent) : balL a (es ++ [e]) = balL a es + balE a e := by
 unfold balL; simp
end Go.Tw.Po
namespace Go.Proofs.YtifcelebfagjbaaGreatDoor
open Go.RowKit Go.Tw Go.Tw.Ord Go.Tw.Po Go.Sort
def LedE (w : World) (r : List Ent × Int) (e : Ending) (w' : World) : Prop := (∃ ve, e = .returned (.tuple #[.agg #[ve], .int .i64 r.2]) ∧ SlIs (tEnt 101) (fun k => (r.2 = 0 → w.heap.size ≤ k) ∧ k < w'.heap.size) w' ve r.1) ∧ Below w.heap.size w w'
set_option maxRecDepth 100000 in
set_option maxHeartbeats 8000000 in
theorem postR_any (es : List Ent) (ve : Value) (e : Ent) (pe : Value) (w : World) (h : SlIs (tEnt 101) (· < w.heap.size) w ve es) (hp : SlIs tSI (· < w.heap.size) w pe e.ps) (he : EntOk e) (hes : ∀ x ∈ es, EOk x) (hl : es.length ≤ 1000) (hep : e.ps.length ≤ 4) :
  Calls Tryz.prog 111 #[.agg #[ve], .agg #[.string e.key, .int .i64 e.tm, pe]] w (LedE w (postL es e)) := by
 have h0 := alloc3 w (.cells #[ve] 68) (.cells #[.string e.key, .int .i64 e.tm, pe] 56) (.cells #[.slice none 0 0] 68); have HP := Lib.hid (show PW w.heap.size ve e pe (((w.alloc (.cells #[ve] 68)).alloc (.cells #[.string e.key, .int .i64 e.tm, pe] 56)).alloc (.cells #[.slice none 0 0] 68)) from ⟨h0.1, h0.2.1, h0.2.2⟩); have HB0 := Lib.hid (bl_alloc (bl_alloc (bl_alloc (Below.refl w.heap.size w) (.cells #[ve] 68)) (.cells #[.string e.key, .int .i64 e.tm, pe] 56)) (.cells #[.slice none 0 0] 68)); have HE := Lib.hid h; have HPS := Lib.hid hp; have HES := Lib.hid hes; have hs0 : w.heap.size + 2 < (((w.alloc (.cells #[ve] 68)).alloc (.cells #[.string e.key, .int .i64 e.tm, pe] 56)).alloc (.cells #[.slice none 0 0] 68)).heap.size := by simp
 have HCK := Lib.hid (lcheckR_any e pe _ he (hp.step HB0.out)); obtain ⟨ao, cap, bi, off, rfl, hl1, hm1, heo⟩ := ent_open h; have HEO := Lib.hid heo; unfold maxLen at hm1; obtain ⟨ao2, cap2, bi2, off2, rfl, hl2, hm2, hpo⟩ := si_open hp; have HPO := Lib.hid hpo; unfold maxLen at hm2; have HOK := Lib.hid he; clear h hp hes h0 he heo hpo; obtain ⟨z, hz⟩ : ∃ z, entC e = z := ⟨_, rfl⟩; rw [hz] at HCK
 by_cases hz0 : z = 0
 case neg =>
  have HR := Lib.hid (post_chk (es := es) (by rw [hz]; exact hz0)); rw [hz] at HR; have hz1 : (z != 0) = true := by simpa using hz0
  clear hz hz0
  go_enter Tryz.func111, Tryz.ntmps111
  go_wp2_with (fail)
  with_reducible refine HCK.out.mono ?_
  rintro r w2 ⟨rfl, hb⟩; have HP2 := Lib.hid (HP.out.step hb hs0); have HB2 := Lib.hid (bl_trans HB0.out hb); have c0 := (blk1 HP2.out.b0).1; obtain ⟨c2, cf⟩ := blk1 HP2.out.b2; have hlt := lt_of_heap HP2.out.b2; clear hb HCK HP hs0; go_wp2; have g5 : (w2.setCell ⟨w.heap.size + 1 + 1, 0, none⟩ (.slice ao es.length cap)).heap[w.heap.size + 1 + 1]? = some (.cells #[.slice ao es.length cap] 68 (0, 0)) := heap_setCell_same _ _ _ _ _ _ HP2.out.b2; have k5 := (blk1 g5).1; have b5 : Below w.heap.size w (w2.setCell ⟨w.heap.size + 1 + 1, 0, none⟩ (.slice ao es.length cap)) := bl_set HB2.out _ (by simp only; omega); refine bodyPost_ret (v := .tuple #[.agg #[.slice ao es.length cap], .int .i64 z]) (by simp [results, Tryz.results111, go_sem, k5]) rfl ⟨⟨_, by rw [HR.out], ?_⟩, b5⟩; rw [HR.out]; exact (HE.out.step b5).keep (fun _ h => ⟨fun e => absurd e (by simpa using hz1), h⟩) (SameOn.refl _ _)
 subst hz0; have hz1 : ((0 : Int) != 0) = false := rfl
 go_enter Tryz.func111, Tryz.ntmps111
 go_wp2_with (fail)
 with_reducible refine HCK.out.mono ?_
 rintro r w2 ⟨rfl, hb⟩; have HP2 := Lib.hid (HP.out.step hb hs0); have HB2 := Lib.hid (bl_trans HB0.out hb); have c0 := (blk1 HP2.out.b0).1; obtain ⟨d0, d1, d2, -⟩ := blk3 HP2.out.b1; have hlt := lt_of_heap HP2.out.b2; clear hb HCK HP hs0; have HFI := Lib.hid (findR32_any es (.slice ao es.length cap) e.key w2 (HE.out.step HB2.out) (fun x hx => by have := (HES.out x hx).ps; omega)); unfold FndE at HFI; obtain ⟨q, hq⟩ : ∃ q, (es.any fun x => decide (x.key = e.key)) = q := ⟨_, rfl⟩; rw [hq] at HFI
 go_wp2_with (fail)
 with_reducible refine HFI.out.mono ?_
 rintro r w3 ⟨⟨fk, ft, xa, xn, xc, rfl⟩, hb⟩; have HP3 := Lib.hid (HP2.out.step hb hlt); have HB3 := Lib.hid (bl_trans HB2.out hb); have hlt3 := lt_of_heap HP3.out.b2; have hA := bl_alloc (Below.refl w3.heap.size w3) (.cells #[.string fk, .int .i64 ft, .slice xa xn xc] 56); have HBA := Lib.hid (bl_trans HB3.out hA); have HPA := Lib.hid (HP3.out.step hA hlt3); clear hb c0 d0 d1 d2 HFI HP2 HB2 hlt
 cases q with
 | true =>
  have HR := Lib.hid (post_key hz hq); clear hz hq hA; have l2 : w.heap.size + 1 + 1 < w3.heap.size := by omega
  have l0 : w.heap.size < w3.heap.size := by omega
  have c0 := (blk1 HP3.out.b0).1; obtain ⟨c2, cf⟩ := blk1 HP3.out.b2; go_wp2; have g5 := alloc1_old (.cells #[.string fk, .int .i64 ft, .slice xa xn xc] 56) (show (w3.setCell ⟨w.heap.size + 1 + 1, 0, none⟩ (.slice ao es.length cap)).heap[w.heap.size + 1 + 1]? = some (.cells #[.slice ao es.length cap] 68 (0, 0)) from heap_setCell_same _ _ _ _ _ _ HP3.out.b2); have k5 := (blk1 g5).1; have b5 : Below w.heap.size w ((w3.setCell ⟨w.heap.size + 1 + 1, 0, none⟩ (.slice ao es.length cap)).alloc (.cells #[.string fk, .int .i64 ft, .slice xa xn xc] 56)) := bl_alloc (bl_set HB3.out _ (by simp only; omega)) _; refine bodyPost_ret (v := .tuple #[.agg #[.slice ao es.length cap], .int .i64 9]) (by simp [results, Tryz.results111, go_sem, k5]) rfl ⟨⟨_, by rw [HR.out], ?_⟩, b5⟩; rw [HR.out]; exact (HE.out.step b5).keep (fun _ h => ⟨fun e => absurd e (show ¬ (9 : Int) = 0 by decide), h⟩) (SameOn.refl _ _)
 | false =>
  have HZ := Lib.hid hz; have HQ := Lib.hid hq; have hltA := lt_of_heap HPA.out.b2; have hA2 := bl_alloc (Below.refl _ (w3.alloc (.cells #[.string fk, .int .i64 ft, .slice xa xn xc] 56))) (.cells #[.slice none 0 0] 68); have g4 := heap_alloc2_new w3 (.cells #[.string fk, .int .i64 ft, .slice xa xn xc] 56) (.cells #[.slice none 0 0] 68); have HP5 := Lib.hid (HPA.out.step hA2 hltA); have HB5 := Lib.hid (bl_trans HBA.out hA2); clear hz hq hA HP3 HB3 hA2 HPA HBA hltA
  go_upto_region 8 with (fail)
  generalize (w3.alloc (.cells #[.string fk, .int .i64 ft, .slice xa xn xc] 56)).alloc (.cells #[.slice none 0 0] 68) = w5 at HP5 HB5 g4 ⊢; obtain ⟨o, ho⟩ : ∃ o, w3.heap.size + 1 = o := ⟨_, rfl⟩; rw [ho] at g4 ⊢; have hltA : w.heap.size + 2 < o := by omega
  have HG5 := Lib.hid g4; have hlo := lt_of_heap g4; clear g4 ho; go_wp2
  go_loopg [10] es.length (fun g i wr => ∃ (k : Nat) (v3 : Value), k + g = es.length ∧ i = .int .i64 k ∧ Hid (PW w.heap.size (.slice ao es.length cap) e (.slice ao2 e.ps.length cap2) wr) ∧ Hid (wr.heap[o]? = some (.cells #[v3] 68 (0, 0))) ∧ Hid (NewL (tEnt 101) 56 (o + 1) wr v3 (es.take k)) ∧ Hid (Below w.heap.size w wr) ∧ o < wr.heap.size)
  case atStart => exact ⟨0, _, by omega, rfl, HP5, HG5, Lib.hid NewL.nil, HB5, hlo⟩
  case round =>
   obtain ⟨k, v3, hk, rfl, HPW, HG, HNW, HBW, hso⟩ := hrel; obtain ⟨a3, c3, rfl, -⟩ := HNW.out.form; have htl : (es.take k).length = k := by simp; omega
   rw [htl] at HG HNW; have c0 := (blk1 HPW.out.b0).1
   by_cases hlt : k < es.length
   · obtain ⟨rfl, -, hbi, hok, hv, hsl, e0, e1, e2⟩ := HEO.out wr (.of_below HBW.out) k hlt
     have k0 : (0 : Int) ≤ (k : Int) := by omega
     have k1 : (k : Int) < (es.length : Int) := by omega
     have hpl := (HES.out _ (List.getElem_mem hlt)).ps; have HTK := Lib.hid (show es.take (k + 1) = es.take k ++ [es[k]] from List.take_succ_eq_append_getElem hlt); generalize es[k] = y at *
     obtain ⟨hva, hvn, hvc, hve⟩ : ∃ a n c, hv = .slice a n c := by
      obtain ⟨a, c, _, _, e, -⟩ := hsl; exact ⟨a, _, c, e⟩
     subst hve; have hbw : bi < wr.heap.size := Nat.lt_of_lt_of_le hbi HBW.out.size; have HOY := Lib.hid hok; have HSL := Lib.hid (show SlIs tSI (· < wr.heap.size) wr (.slice hva hvn hvc) y.ps from hsl.keep (fun q (hq : q < w.heap.size) => Nat.lt_of_lt_of_le hq HBW.out.size) (SameOn.refl _ _)); have HK1 := Lib.hid (show ∀ w', Below wr.heap.size wr w' → w'.cell? ⟨o, 0, none⟩ = some (.slice a3 k c3) from fun w' hw' => (blk1 ((hw'.block _ hso).trans HG.out)).1); have HL1 := Lib.hid (show ∀ w', Below wr.heap.size wr w' → w'.cell? ⟨w.heap.size, 0, none⟩ = some (.slice (some ⟨bi, off, none⟩) es.length cap) from fun w' hw' => (blk1 ((hw'.block _ (lt_of_heap HPW.out.b0)).trans HPW.out.b0)).1); have HX := Lib.hid (show ∀ w', Below wr.heap.size wr w' → w'.cell? ⟨bi, off + k * 3, none⟩ = some (.string y.key) ∧ w'.cell? ⟨bi, off + k * 3 + 1, none⟩ = some (.int .i64 y.tm) ∧ w'.cell? ⟨bi, off + k * 3 + 2, none⟩ = some (.slice hva hvn hvc) from fun w' hw' => ⟨(hw'.cell (p := ⟨bi, off + k * 3, none⟩) hbw).trans e0, (hw'.cell (p := ⟨bi, off + k * 3 + 1, none⟩) hbw).trans e1, (hw'.cell (p := ⟨bi, off + k * 3 + 2, none⟩) hbw).trans e2⟩); have HCC := Lib.hid (show ∀ W, Below wr.heap.size wr W → Calls Tryz.prog 137 #[.agg #[.string y.key, .int .i64 y.tm, .slice hva hvn hvc]] W fun e w' => ∃ h', e = .returned (.agg #[.string y.key, .int .i64 y.tm, h']) ∧ NewL tSI 101 W.heap.size w' h' y.ps ∧ Below W.heap.size W w' from fun W hW => copyR_any y _ W (HSL.out.step hW) (by omega)); clear hsl hok e0 e1 e2
     go_upto_region 11 with (fail)
     clear c0; refine wp_region_E 9 (fun w' => Below wr.heap.size wr w') (by kernel_rfl) ((by (repeat (first | (with_reducible exact Below.refl _ _) | (with_reducible apply bl_drewN) | (with_reducible apply bl_alloc) | (with_reducible apply Below.drew))); done)) (fun hHeld => ?_); refine wpE_take (i := 0) (v := ?_) rfl (by kernel_rfl) (fun _ _ _ h => h) (Or.inl ⟨by kernel_rfl, ?_⟩) (by assumption) ?_
     rotate_left; focus (intro w9 hS9; (try dsimp only at hS9); go_simp; (try with_reducible rfl)); (try simp only [gkA, gkB, gkC, Act.put, gkD, gkE, gkF])
     refine wpE_take (i := 1) (v := ?_) rfl (by kernel_rfl) (fun _ _ _ h => h) (Or.inl ⟨by kernel_rfl, ?_⟩) (by assumption) ?_
     rotate_left; focus (intro w9 hS9; have z0 := HK1.out w9 hS9; clear hS9; go_simp; (try with_reducible rfl)); (try simp only [gkA, gkB, gkC, Act.put, gkD, gkE, gkF])
     refine wpE_take (i := 2) (v := ?_) rfl (by kernel_rfl) (fun _ _ _ h => h) (Or.inl ⟨by kernel_rfl, ?_⟩) (by assumption) ?_
     rotate_left; focus (intro w9 hS9; (try dsimp only at hS9); go_simp; (try with_reducible rfl)); (try simp only [gkA, gkB, gkC, Act.put, gkD, gkE, gkF])
     refine wpE_take (i := 3) (v := ?_) rfl (by kernel_rfl) (fun _ _ _ h => h) (Or.inl ⟨by kernel_rfl, ?_⟩) (by assumption) ?_
     rotate_left; focus (intro w9 hS9; have z0 := HL1.out w9 hS9; clear hS9; go_simp; (try with_reducible rfl)); (try simp only [gkA, gkB, gkC, Act.put, gkD, gkE, gkF])
     refine wpE_take (i := 4) (v := ?_) rfl (by kernel_rfl) (fun _ _ _ h => h) (Or.inl ⟨by kernel_rfl, ?_⟩) (by assumption) ?_
     rotate_left; focus (intro w9 hS9; (try dsimp only at hS9); go_simp; (try with_reducible rfl)); (try simp only [gkA, gkB, gkC, Act.put, gkD, gkE, gkF])
     refine wpE_take (i := 5) (v := ?_) rfl (by kernel_rfl) (fun _ _ _ h => h) (Or.inl ⟨by kernel_rfl, ?_⟩) (by assumption) ?_
     rotate_left; focus (intro w9 hS9; (try dsimp only at hS9); go_simp; (try with_reducible rfl)); (try simp only [gkA, gkB, gkC, Act.put, gkD, gkE, gkF])
     refine wpE_take (i := 6) (v := ?_) rfl (by kernel_rfl) (fun _ _ _ h => h) (Or.inl ⟨by kernel_rfl, ?_⟩) (by assumption) ?_
     rotate_left; focus (intro w9 hS9; obtain ⟨z0, z1, z2⟩ := HX.out w9 hS9; clear hS9; go_simp; (try with_reducible rfl)); (try simp only [gkA, gkB, gkC, Act.put, gkD, gkE, gkF])
     refine wpE_ready (rs := [7]) (by kernel_rfl) (by kernel_rfl) ?_; refine AllReadyE.cons rfl (fun K hK => ?_) AllReadyE.nil; go_simp
     with_reducible refine (HCC.out _ (by (repeat (first | (with_reducible exact Below.refl _ _) | (with_reducible apply bl_drewN) | (with_reducible apply bl_alloc) | (with_reducible apply Below.drew))); done)).mono ?_
     rintro r w6 ⟨h', rfl, hn6, hb6⟩; obtain ⟨a6, c6, rfl, -⟩ := hn6.form; have HN6 := Lib.hid (show NewL tSI 101 wr.heap.size w6 (.slice a6 y.ps.length c6) y.ps from hn6); have HB6 := Lib.hid (show Below wr.heap.size wr w6 from bl_trans (by (repeat (first | (with_reducible exact Below.refl _ _) | (with_reducible apply bl_drewN) | (with_reducible apply bl_alloc) | (with_reducible apply Below.drew))); done) hb6); clear hn6 hb6 HCC; clear hHeld; refine hK.out _ _ (HB6.out) (fun hHeld => ?_); clear hK K; refine wpE_ready (rs := [8]) (by kernel_rfl) (by kernel_rfl) ?_; refine AllReadyE.cons rfl (fun K hK => ?_) AllReadyE.nil; go_simp; clear hHeld; refine hK.out _ _ (bl_trans HB6.out (by (repeat (first | (with_reducible exact Below.refl _ _) | (with_reducible apply bl_drewN) | (with_reducible apply bl_alloc) | (with_reducible apply Below.drew))); done)) (fun hHeld => ?_); clear hK K; clear hHeld; refine wpE_out (by kernel_rfl) ?_; refine wpAny_ready (rs := [9]) (by kernel_rfl) (by simp) ?_; refine AllReady.cons rfl (fun K hK => ?_) AllReady.nil; rw [if_pos (show _ = true by kernel_rfl)]; have hj6 : (es.take k).length ≤ 1000000 := by omega
     refine wp_append_new (w1 := wr) (.tmp 35) (.tmp 42) 66 rfl slEnt (by go_simp) HNW.out (by first | exact HB6.out | exact bl_trans HB6.out (by (repeat (first | (with_reducible exact Below.refl _ _) | (with_reducible apply bl_drewN) | (with_reducible apply bl_alloc) | (with_reducible apply Below.drew))); done)) (by go_simp) (newEnt HOY.out HN6.out) (by omega) (by unfold maxLen; omega) hso ?_; intro v7 w7 hn7 hb7; have hf7 := hn7.form; rw [List.length_append, htl] at hf7; obtain ⟨a7, c7, rfl, -⟩ := hf7; have hbx : Below (o + 1) wr w7 := (HB6.out.mono hso).trans hb7; have HP7 := Lib.hid (HPW.out.step hbx (by omega)); have g7 := (hbx.block o (by omega)).trans HG.out; obtain ⟨r0, rf⟩ := blk1 g7; have hl7 : o < w7.heap.size := lt_of_heap g7; have HN7 := Lib.hid hn7; have HG7 := Lib.hid g7; have HB7 := Lib.hid (show Below w.heap.size w w7 from HBW.out.trans (hbx.mono (by omega))); clear hn7 hb7 hbx g7; refine hK _ _ ?_; clear hK K
     (try simp only [gkA, gkB, gkC, Act.put, gkD, gkE, gkF])
     refine wpAny_ready (rs := [10]) (by kernel_rfl) (by simp) ?_; refine AllReady.cons rfl (fun K hK => ?_) AllReady.nil; rw [if_pos (show _ = true by kernel_rfl)]; go_simp; refine hK _ _ ?_; clear hK K; refine wpAny_ready (rs := [11]) (by kernel_rfl) (by simp) ?_; refine AllReady.cons rfl (fun K hK => ?_) AllReady.nil; rw [if_pos (show _ = true by kernel_rfl)]; go_simp; refine hK _ _ ?_; clear hK K; refine wpAny_done (by kernel_rfl) ?_ _; go_wp2
     go_roundg (es.length - (k + 1))
     case measure => omega
     case rel => exact ⟨k + 1, _, by omega, by go_num, Lib.hid (HP7.out.put (by simp only; omega) _), Lib.hid (heap_setCell_same _ _ _ _ _ _ HG7.out), Lib.hid (by rw [HTK.out]; exact HN7.out.same (fun j hj => Below.heap_setCell _ _ _ _ (by simp only; omega))), Lib.hid (bl_set HB7.out _ (by simp only; omega)), by simp; omega⟩
   · have hkd : decide ((k : Int) < (es.length : Int)) = false := by simp; omega
     have HNA := Lib.hid (show NewL (tEnt 101) 56 (o + 1) wr (.slice a3 k c3) es by have := HNW.out; rwa [List.take_of_length_le (by omega)] at this); obtain rfl : k = es.length := by omega
     have HSL := Lib.hid (HPS.out.step HBW.out); have HK1 := Lib.hid (show ∀ w', Below wr.heap.size wr w' → w'.cell? ⟨o, 0, none⟩ = some (.slice a3 es.length c3) from fun w' hw' => (blk1 ((hw'.block _ hso).trans HG.out)).1)
     have HX := Lib.hid (show ∀ w', Below wr.heap.size wr w' → w'.cell? ⟨w.heap.size + 1, 0, none⟩ = some (.string e.key) ∧ w'.cell? ⟨w.heap.size + 1, 1, none⟩ = some (.int .i64 e.tm) ∧ w'.cell? ⟨w.heap.size + 1, 2, none⟩ = some (.slice ao2 e.ps.length cap2) from fun w' hw' => by
      obtain ⟨z0, z1, z2, -⟩ := blk3 ((hw'.block _ (lt_of_heap HPW.out.b1)).trans HPW.out.b1)
      exact ⟨z0, z1, z2⟩)
     have HCC := Lib.hid (show ∀ W, Below wr.heap.size wr W → Calls Tryz.prog 137 #[.agg #[.string e.key, .int .i64 e.tm, .slice ao2 e.ps.length cap2]] W fun r w' => ∃ h', r = .returned (.agg #[.string e.key, .int .i64 e.tm, h']) ∧ NewL tSI 101 W.heap.size w' h' e.ps ∧ Below W.heap.size W w' from fun W hW => copyR_any e _ W (HSL.out.step hW) (by omega)); clear HNW htl
     go_upto_region 12 with (fail)
     clear c0; refine wp_region_E 5 (fun w' => Below wr.heap.size wr w') (by kernel_rfl) ((by (repeat (first | (with_reducible exact Below.refl _ _) | (with_reducible apply bl_drewN) | (with_reducible apply bl_alloc) | (with_reducible apply Below.drew))); done)) (fun hHeld => ?_); refine wpE_take (i := 0) (v := ?_) rfl (by kernel_rfl) (fun _ _ _ h => h) (Or.inl ⟨by kernel_rfl, ?_⟩) (by assumption) ?_
     rotate_left; focus (intro w9 hS9; (try dsimp only at hS9); go_simp; (try with_reducible rfl)); (try simp only [gkA, gkB, gkC, Act.put, gkD, gkE, gkF])
     refine wpE_take (i := 1) (v := ?_) rfl (by kernel_rfl) (fun _ _ _ h => h) (Or.inl ⟨by kernel_rfl, ?_⟩) (by assumption) ?_
     rotate_left; focus (intro w9 hS9; have z0 := HK1.out w9 hS9; clear hS9; go_simp; (try with_reducible rfl)); (try simp only [gkA, gkB, gkC, Act.put, gkD, gkE, gkF])
     refine wpE_take (i := 2) (v := ?_) rfl (by kernel_rfl) (fun _ _ _ h => h) (Or.inl ⟨by kernel_rfl, ?_⟩) (by assumption) ?_
     rotate_left; focus (intro w9 hS9; obtain ⟨z0, z1, z2⟩ := HX.out w9 hS9; clear hS9; go_simp; (try with_reducible rfl)); (try simp only [gkA, gkB, gkC, Act.put, gkD, gkE, gkF])
     refine wpE_ready (rs := [3]) (by kernel_rfl) (by kernel_rfl) ?_; refine AllReadyE.cons rfl (fun K hK => ?_) AllReadyE.nil; go_simp
     with_reducible refine (HCC.out _ (by (repeat (first | (with_reducible exact Below.refl _ _) | (with_reducible apply bl_drewN) | (with_reducible apply bl_alloc) | (with_reducible apply Below.drew))); done)).mono ?_
     rintro r w6 ⟨h', rfl, hn6, hb6⟩; obtain ⟨a6, c6, rfl, -⟩ := hn6.form; have HN6 := Lib.hid (show NewL tSI 101 wr.heap.size w6 (.slice a6 e.ps.length c6) e.ps from hn6); have HB6 := Lib.hid (show Below wr.heap.size wr w6 from bl_trans (by (repeat (first | (with_reducible exact Below.refl _ _) | (with_reducible apply bl_drewN) | (with_reducible apply bl_alloc) | (with_reducible apply Below.drew))); done) hb6); clear hn6 hb6 HCC; clear hHeld; refine hK.out _ _ (HB6.out) (fun hHeld => ?_); clear hK K; refine wpE_ready (rs := [4]) (by kernel_rfl) (by kernel_rfl) ?_; refine AllReadyE.cons rfl (fun K hK => ?_) AllReadyE.nil; go_simp; clear hHeld; refine hK.out _ _ (bl_trans HB6.out (by (repeat (first | (with_reducible exact Below.refl _ _) | (with_reducible apply bl_drewN) | (with_reducible apply bl_alloc) | (with_reducible apply Below.drew))); done)) (fun hHeld => ?_); clear hK K; clear hHeld; refine wpE_out (by kernel_rfl) ?_; refine wpAny_ready (rs := [5]) (by kernel_rfl) (by simp) ?_; refine AllReady.cons rfl (fun K hK => ?_) AllReady.nil; rw [if_pos (show _ = true by kernel_rfl)]; have hj6 : es.length ≤ 1000000 := by omega
     refine wp_append_new (w1 := wr) (.tmp 46) (.tmp 49) 66 rfl slEnt (by go_simp) HNA.out (by first | exact HB6.out | exact bl_trans HB6.out (by (repeat (first | (with_reducible exact Below.refl _ _) | (with_reducible apply bl_drewN) | (with_reducible apply bl_alloc) | (with_reducible apply Below.drew))); done)) (by go_simp) (newEnt HOK.out HN6.out) (by omega) (by unfold maxLen; omega) hso ?_; intro v7 w7 hn7 hb7; have hf7 := hn7.form; rw [show (es ++ [e]).length = es.length + 1 by simp] at hf7; obtain ⟨a7, c7, rfl, -⟩ := hf7; have hbx : Below (o + 1) wr w7 := (HB6.out.mono hso).trans hb7; have hp7 := HPW.out.step hbx (by omega); have g7 := (hbx.block o (by omega)).trans HG.out; obtain ⟨r0, rf⟩ := blk1 g7; have hl7 : o < w7.heap.size := lt_of_heap g7; have HP8 := Lib.hid (hp7.put (q := ⟨o, 0, none⟩) (by simp only; omega) (.slice a7 (es.length + 1) c7)); have HG8 := Lib.hid (show (w7.setCell ⟨o, 0, none⟩ (.slice a7 (es.length + 1) c7)).heap[o]? = some (.cells #[.slice a7 (es.length + 1) c7] 68 (0, 0)) from heap_setCell_same _ _ _ _ _ _ g7); have HN8 := Lib.hid (show NewL (tEnt 101) 56 (o + 1) (w7.setCell ⟨o, 0, none⟩ (.slice a7 (es.length + 1) c7)) (.slice a7 (es.length + 1) c7) (es ++ [e]) from hn7.same (fun j hj => Below.heap_setCell _ _ _ _ (by simp only; omega))); have HB8 := Lib.hid (show Below w.heap.size w (w7.setCell ⟨o, 0, none⟩ (.slice a7 (es.length + 1) c7)) from bl_set (HBW.out.trans (hbx.mono (by omega))) _ (by simp only; omega)); have hl8 : o < (w7.setCell ⟨o, 0, none⟩ (.slice a7 (es.length + 1) c7)).heap.size := by simpa using hl7
     clear hn7 hb7 hbx g7 hp7; refine hK _ _ ?_; clear hK K
     (try simp only [gkA, gkB, gkC, Act.put, gkD, gkE, gkF])
     refine wpAny_ready (rs := [6]) (by kernel_rfl) (by simp) ?_; refine AllReady.cons rfl (fun K hK => ?_) AllReady.nil; rw [if_pos (show _ = true by kernel_rfl)]; go_simp; refine hK _ _ ?_; clear hK K; refine wpAny_ready (rs := [7]) (by kernel_rfl) (by simp) ?_; refine AllReady.cons rfl (fun K hK => ?_) AllReady.nil; rw [if_pos (show _ = true by kernel_rfl)]; go_simp; refine hK _ _ ?_; clear hK K; refine wpAny_done (by kernel_rfl) ?_ _; clear r0 rf; generalize w7.setCell ⟨o, 0, none⟩ (.slice a7 (es.length + 1) c7) = w8 at HP8 HG8 HN8 HB8 hl8 ⊢
     have HLK := Lib.hid (show LOk 4004 (es ++ [e]) from by
      have h1 := LOk.of HES.out hl; have h2 := (ent_facts HZ.out).2.2.2.1; refine ⟨?_, fun x hx => ?_⟩
      · have := h1.len
        unfold posL at this ⊢; rw [List.flatMap_append, List.length_append]; simp only [List.flatMap_cons, List.flatMap_nil, List.append_nil]
        omega
      · unfold posL at hx
        rw [List.flatMap_append] at hx
        rcases List.mem_append.1 hx with hx | hx
        · exact h1.fit x hx
        · exact h2 x (by simpa using hx))
     clear HX HK1 HSL HNA HG HPW HBW hso; go_wp2
     go_loopg [11] e.ps.length (fun g i wr => ∃ j : Nat, j + g = e.ps.length ∧ i = .int .i64 j ∧ Hid (∀ q (hq : q < e.ps.length), q < j → fitsM (balL e.ps[q].s (es ++ [e])) = true) ∧ Hid (Below w8.heap.size w8 wr))
     case atStart => exact ⟨0, by omega, rfl, Lib.hid (fun q _ h => by omega), Lib.hid (Below.refl _ _)⟩
     case round =>
      obtain ⟨j, hj, rfl, HT, HBX⟩ := hrel; have HPX := Lib.hid (HP8.out.step HBX.out (by omega)); have HBY := Lib.hid (HB8.out.trans (HBX.out.mono HB8.out.size)); have HGX := Lib.hid ((HBX.out.block o hl8).trans HG8.out); obtain ⟨-, -, d2, -⟩ := blk3 HPX.out.b1; have d2 : wr.cell? ⟨w.heap.size + 1, 2, none⟩ = some (.slice ao2 e.ps.length cap2) := d2
      by_cases hlt2 : j < e.ps.length
      · obtain ⟨rfl, -, hbi2, hop, e0, e1⟩ := HPO.out wr (.of_below HBY.out) j hlt2
        have j0 : (0 : Int) ≤ (j : Int) := by omega
        have j1 : (j : Int) < (e.ps.length : Int) := by omega
        have HG1 := Lib.hid (show ∀ q (hq : q < e.ps.length), q = j → e.ps[q] = e.ps[j] by rintro q hq rfl; rfl); have HMM := Lib.hid (List.getElem_mem hlt2); generalize e.ps[j] = p at *; obtain ⟨xs, xn⟩ := p; simp only at e0 e1; have hbw : bi2 < wr.heap.size := Nat.lt_of_lt_of_le hbi2 HBY.out.size; have HK1 := Lib.hid (show ∀ w', Below wr.heap.size wr w' → w'.cell? ⟨o, 0, none⟩ = some (.slice a7 (es.length + 1) c7) from fun w' hw' => (blk1 ((hw'.block _ (lt_of_heap HGX.out)).trans HGX.out)).1); have HK2 := Lib.hid (show ∀ w', Below wr.heap.size wr w' → w'.cell? ⟨w.heap.size + 1, 2, none⟩ = some (.slice (some ⟨bi2, off2, none⟩) e.ps.length cap2) from fun w' hw' => (blk3 ((hw'.block _ (lt_of_heap HPX.out.b1)).trans HPX.out.b1)).2.2.1); have HK3 := Lib.hid (show ∀ w', Below wr.heap.size wr w' → w'.cell? ⟨bi2, off2 + j * 2, none⟩ = some (.string xs) from fun w' hw' => (hw'.cell (p := ⟨bi2, off2 + j * 2, none⟩) hbw).trans e0); have HSN := Lib.hid (HN8.out.sl'.keep (S' := (· < wr.heap.size)) (fun q (hq : q < w8.heap.size) => Nat.lt_of_lt_of_le hq HBX.out.size) (.of_below HBX.out)); have HBL := Lib.hid (show ∀ W, Below wr.heap.size wr W → Calls Tryz.prog 26 #[.agg #[.slice a7 (es.length + 1) c7], .string xs] W fun r w' => r = .returned (.int .i64 (balL xs (es ++ [e]))) ∧ Below W.heap.size W w' from fun W hW => balR_any (es ++ [e]) _ xs W (HSN.out.step hW) HLK.out); obtain ⟨bz, hbz⟩ : ∃ bz, balL xs (es ++ [e]) = bz := ⟨_, rfl⟩; rw [hbz] at HBL; have HFT := Lib.hid (fun W => fits32_any bz W); obtain ⟨f, hf⟩ : ∃ f, fitsM bz = f := ⟨_, rfl⟩; rw [hf] at HFT; have HFE := Lib.hid (show fitsM (balL xs (es ++ [e])) = f by rw [hbz, hf]); clear hbz hf e0 e1
        go_upto_region 16 with (fail)
        clear d2; refine wp_region_E 9 (fun w' => Below wr.heap.size wr w') (by kernel_rfl) ((by (repeat (first | (with_reducible exact Below.refl _ _) | (with_reducible apply bl_drewN) | (with_reducible apply bl_alloc) | (with_reducible apply Below.drew))); done)) (fun hHeld => ?_); refine wpE_take (i := 0) (v := ?_) rfl (by kernel_rfl) (fun _ _ _ h => h) (Or.inl ⟨by kernel_rfl, ?_⟩) (by assumption) ?_
        rotate_left; focus (intro w9 hS9; have z0 := HK1.out w9 hS9; clear hS9; go_simp; (try with_reducible rfl)); (try simp only [gkA, gkB, gkC, Act.put, gkD, gkE, gkF])
        refine wpE_take (i := 1) (v := ?_) rfl (by kernel_rfl) (fun _ _ _ h => h) (Or.inl ⟨by kernel_rfl, ?_⟩) (by assumption) ?_
        rotate_left; focus (intro w9 hS9; (try dsimp only at hS9); go_simp; (try with_reducible rfl)); (try simp only [gkA, gkB, gkC, Act.put, gkD, gkE, gkF])
        refine wpE_take (i := 2) (v := ?_) rfl (by kernel_rfl) (fun _ _ _ h => h) (Or.inl ⟨by kernel_rfl, ?_⟩) (by assumption) ?_
        rotate_left; focus (intro w9 hS9; have z0 := HK2.out w9 hS9; clear hS9; go_simp; (try with_reducible rfl)); (try simp only [gkA, gkB, gkC, Act.put, gkD, gkE, gkF])
        refine wpE_take (i := 3) (v := ?_) rfl (by kernel_rfl) (fun _ _ _ h => h) (Or.inl ⟨by kernel_rfl, ?_⟩) (by assumption) ?_
        rotate_left; focus (intro w9 hS9; (try dsimp only at hS9); go_simp; (try with_reducible rfl)); (try simp only [gkA, gkB, gkC, Act.put, gkD, gkE, gkF])
        refine wpE_take (i := 4) (v := ?_) rfl (by kernel_rfl) (fun _ _ _ h => h) (Or.inl ⟨by kernel_rfl, ?_⟩) (by assumption) ?_
        rotate_left; focus (intro w9 hS9; (try dsimp only at hS9); go_simp; (try with_reducible rfl)); (try simp only [gkA, gkB, gkC, Act.put, gkD, gkE, gkF])
        refine wpE_take (i := 5) (v := ?_) rfl (by kernel_rfl) (fun _ _ _ h => h) (Or.inl ⟨by kernel_rfl, ?_⟩) (by assumption) ?_
        rotate_left; focus (intro w9 hS9; (try dsimp only at hS9); go_simp; (try with_reducible rfl)); (try simp only [gkA, gkB, gkC, Act.put, gkD, gkE, gkF])
        refine wpE_take (i := 6) (v := ?_) rfl (by kernel_rfl) (fun _ _ _ h => h) (Or.inl ⟨by kernel_rfl, ?_⟩) (by assumption) ?_
        rotate_left; focus (intro w9 hS9; have z0 := HK3.out w9 hS9; clear hS9; go_simp; (try with_reducible rfl)); (try simp only [gkA, gkB, gkC, Act.put, gkD, gkE, gkF])
        refine wpE_ready (rs := [7]) (by kernel_rfl) (by kernel_rfl) ?_; refine AllReadyE.cons rfl (fun K hK => ?_) AllReadyE.nil; go_simp
        with_reducible refine (HBL.out _ (by (repeat (first | (with_reducible exact Below.refl _ _) | (with_reducible apply bl_drewN) | (with_reducible apply bl_alloc) | (with_reducible apply Below.drew))); done)).mono ?_
        rintro r w9 ⟨rfl, hb9⟩; have HB9 := Lib.hid (show Below wr.heap.size wr w9 from bl_trans (by (repeat (first | (with_reducible exact Below.refl _ _) | (with_reducible apply bl_drewN) | (with_reducible apply bl_alloc) | (with_reducible apply Below.drew))); done) hb9); clear hb9 HBL; clear hHeld; refine hK.out _ _ (HB9.out) (fun hHeld => ?_); clear hK K; refine wpE_ready (rs := [8]) (by kernel_rfl) (by kernel_rfl) ?_; refine AllReadyE.cons rfl (fun K hK => ?_) AllReadyE.nil; go_simp
        with_reducible refine (HFT.out _).mono ?_
        rintro r w10 ⟨rfl, rfl⟩; clear hHeld; refine hK.out _ _ (HB9.out) (fun hHeld => ?_); clear hK K; clear hHeld; refine wpE_out (by kernel_rfl) ?_; refine wpAny_ready (rs := [9]) (by kernel_rfl) (by simp) ?_; refine AllReady.cons rfl (fun K hK => ?_) AllReady.nil; rw [if_pos (show _ = true by kernel_rfl)]; go_simp; refine hK _ _ ?_; clear hK K; refine wpAny_done (by kernel_rfl) ?_ _
        cases f with
        | true =>
         go_wp2
         go_roundg (e.ps.length - (j + 1))
         case measure => omega
         case rel => exact ⟨j + 1, by omega, by go_num, Lib.hid (fun q hq h => by
          by_cases e : q = j
          · rw [HG1.out q hq e]; exact HFE.out
          · exact HT.out q hq (by omega)), Lib.hid (bl_trans HBX.out HB9.out)⟩
        | false =>
         have HR := Lib.hid (post_bad HZ.out HQ.out (by
          rw [List.all_eq_false]
          exact ⟨_, HMM.out, by rw [← balL_snoc, HFE.out]; decide⟩))
         have HP9 := Lib.hid (HPX.out.step HB9.out (by have := lt_of_heap HPX.out.b2; omega)); have HBZ := Lib.hid (bl_trans HBY.out HB9.out); have c0 := (blk1 HP9.out.b0).1; obtain ⟨c2, cf⟩ := blk1 HP9.out.b2; have c2 : w9.cell? ⟨w.heap.size + 1 + 1, 0, none⟩ = some (.slice none 0 0) := c2; have cf : ∀ j, w9.frozen? ⟨w.heap.size + 1 + 1, j, none⟩ = false := cf; have hl9 := lt_of_heap HP9.out.b2; go_wp2; have g5 : (w9.setCell ⟨w.heap.size + 1 + 1, 0, none⟩ (.slice ao es.length cap)).heap[w.heap.size + 1 + 1]? = some (.cells #[.slice ao es.length cap] 68 (0, 0)) := heap_setCell_same _ _ _ _ _ _ HP9.out.b2; have k5 := (blk1 g5).1; have b5 : Below w.heap.size w (w9.setCell ⟨w.heap.size + 1 + 1, 0, none⟩ (.slice ao es.length cap)) := bl_set HBZ.out _ (by simp only; omega); refine bodyPost_ret (v := .tuple #[.agg #[.slice ao es.length cap], .int .i64 13]) (by simp [results, Tryz.results111, go_sem, k5]) rfl ⟨⟨_, by rw [HR.out], ?_⟩, b5⟩; rw [HR.out]; exact (HE.out.step b5).keep (fun _ h => ⟨fun e => absurd e (show ¬ (13 : Int) = 0 by decide), h⟩) (SameOn.refl _ _)
      · have hjd : decide ((j : Int) < (e.ps.length : Int)) = false := by simp; omega
        have HR := Lib.hid (post_ok HZ.out HQ.out (by
         rw [List.all_eq_true]; intro p hp; obtain ⟨q, hq, rfl⟩ := List.getElem_of_mem hp; rw [← balL_snoc]
         exact HT.out q hq (by omega)))
        have k0 := (blk1 HGX.out).1; obtain ⟨c2, cf⟩ := blk1 HPX.out.b2; have c2 : wr.cell? ⟨w.heap.size + 1 + 1, 0, none⟩ = some (.slice none 0 0) := c2; have cf : ∀ j, wr.frozen? ⟨w.heap.size + 1 + 1, j, none⟩ = false := cf; have hl9 := lt_of_heap HPX.out.b2; go_wp2; have g5 : (wr.setCell ⟨w.heap.size + 1 + 1, 0, none⟩ (.slice a7 (es.length + 1) c7)).heap[w.heap.size + 1 + 1]? = some (.cells #[.slice a7 (es.length + 1) c7] 68 (0, 0)) := heap_setCell_same _ _ _ _ _ _ HPX.out.b2; have k5 := (blk1 g5).1; have b5 : Below w.heap.size w (wr.setCell ⟨w.heap.size + 1 + 1, 0, none⟩ (.slice a7 (es.length + 1) c7)) := bl_set HBY.out _ (by simp only; omega); refine bodyPost_ret (v := .tuple #[.agg #[.slice a7 (es.length + 1) c7], .int .i64 0]) (by simp [results, Tryz.results111, go_sem, k5]) rfl ⟨⟨_, by rw [HR.out], ?_⟩, b5⟩; rw [HR.out]; exact HN8.out.sl.keep (fun q hq => ⟨fun _ => by omega, by have := HBX.out.size; simp; omega⟩) (fun q hq => (Below.heap_setCell _ _ _ _ (by simp only; omega)).trans (HBX.out.block q hq.2))
end Go.Proofs.YtifcelebfagjbaaGreatDoor
namespace Go.Tw.Po
open Go.RowKit Go.Tw
structure DK (B g : Nat) (w w' : World) : Prop where
 same : SameOn (fun k => k < B ∧ k ≠ g) w w'
 bel : Below g w w'
theorem DK.refl (B g : Nat) (w : World) : DK B g w w := ⟨SameOn.refl _ _, Below.refl _ _⟩
theorem DK.trans {B g : Nat} {a b c : World} (h : DK B g a b) (k : DK B g b c) : DK B g a c := ⟨h.same.trans k.same, h.bel.trans k.bel⟩
theorem DK.of_below {B g : Nat} {a b : World} (h : Below B a b) (hg : g ≤ B) : DK B g a b := ⟨fun k hk => h.block k hk.1, h.mono hg⟩
theorem DK.set {B g : Nat} {a b : World} (h : DK B g a b) {p : Addr} (hp : p.block = g ∨ B ≤ p.block) (hB : g < B) (u : Value) : DK B g a (b.setCell p u) :=
 ⟨h.same.set (fun (e : p.block < B ∧ p.block ≠ g) => by rcases hp with q | q <;> omega) u, h.bel.setCell (by rcases hp with q | q <;> omega) u⟩
theorem add_set {l : List SI} {a : ByteArray} {n : Int} {k : Nat} (hk : k < l.length) (he : l[k].s = a) (hb : ∀ i (hi : i < l.length), i < k → l[i].s ≠ a) : addP l a n = l.set k ⟨l[k].s, l[k].n + n⟩ := by
 induction l generalizing k with
 | nil => simp at hk
 | cons p l ih =>
  rw [addP]
  cases k with
  | zero => rw [List.getElem_cons_zero] at he; rw [if_pos he]; rfl
  | succ k =>
   have h0 := hb 0 (by simp) (by omega); rw [List.getElem_cons_zero] at h0; rw [if_neg h0, ih (k := k) (by simpa using hk) (by rwa [List.getElem_cons_succ] at he) (fun i hi h => by have := hb (i + 1) (by simpa using hi) (by omega); rwa [List.getElem_cons_succ] at this)]
   rfl
theorem add_end {l : List SI} {a : ByteArray} {n : Int} (hb : ∀ i (hi : i < l.length), l[i].s ≠ a) : addP l a n = l ++ [⟨a, n⟩] := by
 induction l with
 | nil => rfl
 | cons p l ih =>
  have h0 := hb 0 (by simp); rw [List.getElem_cons_zero] at h0; rw [addP, if_neg h0, ih (fun i hi => by have := hb (i + 1) (by simpa using hi); rwa [List.getElem_cons_succ] at this)]
  rfl
end Go.Tw.Po
namespace Go.Proofs.YtifcelebfagjbaaGreatDoor
open Go.RowKit Go.Tw Go.Tw.Ord Go.Tw.Po Go.Sort
structure DW (B g : Nat) (key : ByteArray) (tm : Int) (l : List SI) (w : World) (v : Value) : Prop where
 box : w.heap[g]? = some (.cells #[.string key, .int .i64 tm, v] 105 (0, 0))
 own : NewL tSI 101 B w v l
 lt : g < B
theorem DW.below {B g : Nat} {key : ByteArray} {tm : Int} {l : List SI} {w w' : World} {v : Value} (h : DW B g key tm l w v) (hb : Below w.heap.size w w') : DW B g key tm l w' v :=
 ⟨(hb.block _ (lt_of_heap h.box)).trans h.box, h.own.below hb, h.lt⟩
set_option maxRecDepth 100000 in
set_option maxHeartbeats 2000000 in
theorem add_any (B g : Nat) (key : ByteArray) (tm : Int) (l : List SI) (v : Value) (a : ByteArray) (n : Int) (w : World) (h : DW B g key tm l w v) (hB : B ≤ w.heap.size) (hl : l.length ≤ 1000) (ha : a.size ≤ maxLen) (hm : Amt 4611686018427387904 l) (hn : -4611686018427387903 ≤ n ∧ n ≤ 4611686018427387903) :
  Calls Tryz.prog 65 #[.pointer (some ⟨g, 0, none⟩), .string a, .int .i64 n] w fun e w' => e = .returned (.tuple #[]) ∧ (∃ v', DW B g key tm (addP l a n) w' v') ∧ DK B g w w' ∧ w.heap.size ≤ w'.heap.size := by
 have HH := Lib.hid h; obtain ⟨c0, c1, c2, cf⟩ := blk3 h.box; obtain ⟨ao, cap, b, off, rfl, h1, h2, ho⟩ := si_open h.own.sl'; unfold maxLen at h2; have HO := Lib.hid ho; have hm0 := Lib.hid hm; have hg := lt_of_heap h.box; clear h ho hm
 go_enter Tryz.func65, Tryz.ntmps65
 go_wp2
 go_loopg [6, 13] l.length (fun gx j i wr => ∃ (k : Nat), k + gx = l.length ∧ i = .int .i64 k ∧ Hid (∀ i (hi : i < l.length), i < k → l[i].s ≠ a) ∧ wr = w)
 case atStart => exact ⟨0, by omega, rfl, Lib.hid (fun i _ hi => by omega), rfl⟩
 case round =>
  obtain ⟨k, hk, rfl, HT, rfl⟩ := hrel
  by_cases hlt : k < l.length
  · obtain ⟨rfl, hbS, hbi, hok, d0, d1⟩ := HO.out wr (SameOn.refl _ _) k hlt
    have k0 : (0 : Int) ≤ (k : Int) := by omega
    have k1 : (k : Int) < (l.length : Int) := by omega
    by_cases he : l[k].s = a
    · have e1 : (l[k].s.toList == a.toList) = true := by rw [eq_str]; simpa using he
      obtain ⟨F, o1, o2, o3⟩ := HH.out.own; obtain ⟨g2, cap2, cs, Fi, hv2, -, -, hel, -, hst⟩ := o1.upd o2 k hlt
      injection hv2 with q1 q2 q3
      injection q1 with q1
      injection q1 with q1 q4
      subst q1 q4 q3; rw [Nat.zero_add] at d0 d1; obtain ⟨rfl, rfl, -⟩ := tSI_own hel.own; have hgb := o3 _ hel.mem; have hAD := add_set hlt he HT.out (n := n); have hmk := hm0.out _ (List.getElem_mem hlt); have hso := hok.s; have hw : IntKind.i64.wrap (l[k].n + n) = l[k].n + n := wrap_in (by omega) (by omega)
      have HW := Lib.hid (show DW B g key tm (addP l a n) (wr.setCell ⟨b, k * 2 + 1, none⟩ (.int .i64 (l[k].n + n))) (.slice (some ⟨b, 0, none⟩) l.length cap) from by
       obtain ⟨F', f1, f2, f3⟩ := hst wr [] (SI.mk l[k].s (l[k].n + n)) 1 (.int .i64 (l[k].n + n)) (fun _ _ _ => rfl) (by decide) (tSI_own_mk (r := SI.mk l[k].s (l[k].n + n)) ⟨hso, show -9223372036854775808 ≤ l[k].n + n ∧ l[k].n + n ≤ 9223372036854775807 by omega⟩) List.nodup_nil (fun b hb => by simp at hb); rw [hAD]; refine ⟨(Below.heap_setCell _ _ _ _ (by have := HH.out.lt; simp; omega)).trans HH.out.box, ⟨F', ?_, f2, fun b hb => ?_⟩, HH.out.lt⟩
       · exact f1
       · rcases f3 b hb with q | q
         · exact o3 b q
         · simp at q)
      have hfz : ∀ j, wr.frozen? ⟨b, j, none⟩ = false := hel.free; have HDK := Lib.hid (show DK B g wr (wr.setCell ⟨b, k * 2 + 1, none⟩ (.int .i64 (l[k].n + n))) from (DK.refl _ _ _).set (.inr hgb) HH.out.lt _); clear hst hel o1 o2 o3 hAD HO; generalize l[k].s = ys at *; generalize l[k].n = yn at *; go_wp2; exact bodyPost_ret (results_none rfl _ _ _) rfl ⟨rfl, ⟨_, HW.out⟩, HDK.out, by simp⟩
    · have e1 : (l[k].s.toList == a.toList) = false := by rw [eq_str]; simpa using he
      go_wp2
      go_roundg (l.length - (k + 1))
      case measure => omega
      case rel => exact ⟨k + 1, by omega, by go_num, Lib.hid (fun i hi h => by
       by_cases e : i = k
       · subst e; exact he
       · exact HT.out i hi (by omega)), rfl⟩
  · have hkd : decide ((k : Int) < (l.length : Int)) = false := by simp; omega
    have hAD := Lib.hid (add_end (n := n) fun i hi => HT.out i hi (by omega)); have hlm : l.length ≤ 1000 := hl; have hsi : SIOk ⟨a, n⟩ := ⟨ha, show -9223372036854775808 ≤ n ∧ n ≤ 9223372036854775807 by omega⟩; have hnx : New tSI wr.heap.size wr (siCells ⟨a, n⟩) ⟨a, n⟩ := ⟨[], tSI_own_mk hsi, List.nodup_nil, fun b hb => by simp at hb⟩; have HNX := Lib.hid hnx; clear hnx hsi HO
    go_wp2_with (at_builtin
                 refine wpList_append_new (.tmp 46) (.tmp 50) rfl 54 rfl slPst rfl HH.out.own (Below.refl _ _) rfl HNX.out (by omega) (by unfold maxLen; omega) hB ?_; intro v' w5 hn5 hb5; have hf5 := hn5.form; rw [List.length_append] at hf5; obtain ⟨a5, c5, rfl, -⟩ := hf5; have g5 := (hb5.block g HH.out.lt).trans HH.out.box; obtain ⟨r0, r1, r2, rf⟩ := blk3 g5; have hg5 := lt_of_heap g5; have HN5 := Lib.hid hn5; have HB5 := Lib.hid hb5; have HG5 := Lib.hid g5
                 clear hn5 hb5 g5)
    go_end0
    have hsz := HB5.out.size; refine ⟨rfl, ⟨_, heap_setCell_same _ _ _ _ _ _ HG5.out, ?_, HH.out.lt⟩, (DK.of_below HB5.out (Nat.le_of_lt HH.out.lt)).set (.inl rfl) HH.out.lt _, by simpa using hsz⟩; rw [hAD.out]; exact HN5.out.same fun j hj => Below.heap_setCell _ _ _ _ (by have := HH.out.lt; have := hj.1; simp only; omega)
end Go.Proofs.YtifcelebfagjbaaGreatDoor
namespace Go.Proofs.YtifcelebfagjbaaGreatDoor
open Go.RowKit Go.Tw Go.Tw.Ord Go.Tw.Po Go.Sort
set_option maxRecDepth 100000 in
set_option maxHeartbeats 4000000 in
theorem addR_any (l : List SI) (v : Value) (a : ByteArray) (n : Int) (w : World) (h : SlIs tSI (· < w.heap.size) w v l) (hl : l.length ≤ 1000) (ha : a.size ≤ maxLen) (hm : Amt 4611686018427387904 l) (hn : -4611686018427387903 ≤ n ∧ n ≤ 4611686018427387903) :
  Calls Tryz.prog 74 #[v, .string a, .int .i64 n] w fun e w' => (∃ v', e = .returned v' ∧ NewL tSI 101 w.heap.size w' v' (addP l a n)) ∧ Below w.heap.size w w' := by
 obtain ⟨ao, cap, _, _, rfl, -⟩ := id h; have o0 : OwnSl tSI 101 w.heap.size (w.alloc (.cells #[] 101)) (.slice (some ⟨w.heap.size, 0, none⟩) 0 0) [] := OwnSl.lit (css := []) rfl trivial (Nat.le_refl _) (by decide); have h2 : SlIs tSI (· < w.heap.size) (w.alloc (.cells #[] 101)) (.slice ao l.length cap) l := h.keep (fun _ h => h) (fun k hk => Below.heap_alloc _ _ _ hk); have H2 := Lib.hid h2; have HO0 := Lib.hid o0; have HL := Lib.hid hl; have hm0 := Lib.hid hm; clear o0 h2 h hm
 go_enter Tryz.func74, Tryz.ntmps74
 go_wp2_with (at_builtin; refine wpList_append_old (.tmp 9) (.tmp 10) rfl 54 rfl slPst rfl HO0.out rfl H2.out (small_bytes (k := 1000) (by simpa using HL.out) (by decide)) (Nat.le_trans (by simpa using HL.out) (show 1000 ≤ maxLen by decide)) (by simp) ?_; intro v' w1 ho1 hg1 hb1)
 rw [List.nil_append] at ho1; have HN := Lib.hid (NewL.ofOwn ownSI ho1 (Nat.le_refl _)); have HB := Lib.hid ((bl_alloc (Below.refl w.heap.size w) (.cells #[] 101)).trans hb1); obtain ⟨ao, cap, b, off, rfl, h1, h2, ho⟩ := si_open HN.out.sl'; unfold maxLen at h2; have HO := Lib.hid ho; have hwz := HB.out.size; clear ho ho1 hg1 hb1 H2 HO0
 go_loopg [8] l.length (fun gx i wr => ∃ (k : Nat), k + gx = l.length ∧ i = .int .i64 k ∧ Hid (∀ i (hi : i < l.length), i < k → l[i].s ≠ a) ∧ wr = w1)
 case atStart => exact ⟨0, by omega, rfl, Lib.hid (fun i _ hi => by omega), rfl⟩
 case round =>
  obtain ⟨k, hk, rfl, HT, rfl⟩ := hrel
  by_cases hlt : k < l.length
  · obtain ⟨rfl, hbS, hbi, hok, d0, d1⟩ := HO.out wr (SameOn.refl _ _) k hlt
    have k0 : (0 : Int) ≤ (k : Int) := by omega
    have k1 : (k : Int) < (l.length : Int) := by omega
    by_cases he : l[k].s = a
    · have e1 : (l[k].s.toList == a.toList) = true := by rw [eq_str]; simpa using he
      obtain ⟨F, o1, o2, o3⟩ := HN.out; obtain ⟨g2, cap2, cs, Fi, hv2, -, -, hel, -, hst⟩ := o1.upd o2 k hlt
      injection hv2 with q1 q2 q3
      injection q1 with q1
      injection q1 with q1 q4
      subst q1 q4 q3; rw [Nat.zero_add] at d0 d1; obtain ⟨rfl, rfl, -⟩ := tSI_own hel.own; have hgb := o3 _ hel.mem; have hAD := add_set hlt he HT.out (n := n); have hmk := hm0.out _ (List.getElem_mem hlt); have hso := hok.s; have hw : IntKind.i64.wrap (l[k].n + n) = l[k].n + n := wrap_in (by omega) (by omega)
      have HW := Lib.hid (show NewL tSI 101 w.heap.size (wr.setCell ⟨b, k * 2 + 1, none⟩ (.int .i64 (l[k].n + n))) (.slice (some ⟨b, 0, none⟩) l.length cap) (addP l a n) from by
       obtain ⟨F', f1, f2, f3⟩ := hst wr [] (SI.mk l[k].s (l[k].n + n)) 1 (.int .i64 (l[k].n + n)) (fun _ _ _ => rfl) (by decide) (tSI_own_mk (r := SI.mk l[k].s (l[k].n + n)) ⟨hso, show -9223372036854775808 ≤ l[k].n + n ∧ l[k].n + n ≤ 9223372036854775807 by omega⟩) List.nodup_nil (fun b hb => by simp at hb); rw [hAD]; refine ⟨F', ?_, f2, fun b hb => ?_⟩
       · exact f1
       · rcases f3 b hb with q | q
         · exact o3 b q
         · simp at q)
      have hfz : ∀ j, wr.frozen? ⟨b, j, none⟩ = false := hel.free; have HDK := Lib.hid (show Below w.heap.size w (wr.setCell ⟨b, k * 2 + 1, none⟩ (.int .i64 (l[k].n + n))) from bl_set HB.out _ hgb); clear hst hel o1 o2 o3 hAD HO; generalize l[k].s = ys at *; generalize l[k].n = yn at *; go_wp2; go_ret; exact ⟨⟨_, rfl, HW.out⟩, HDK.out⟩
    · have e1 : (l[k].s.toList == a.toList) = false := by rw [eq_str]; simpa using he
      go_wp2
      go_roundg (l.length - (k + 1))
      case measure => omega
      case rel => exact ⟨k + 1, by omega, by go_num, Lib.hid (fun i hi h => by
       by_cases e : i = k
       · subst e; exact he
       · exact HT.out i hi (by omega)), rfl⟩
  · have hkd : decide ((k : Int) < (l.length : Int)) = false := by simp; omega
    have hAD := Lib.hid (add_end (n := n) fun i hi => HT.out i hi (by omega)); have hsi : SIOk ⟨a, n⟩ := ⟨ha, show -9223372036854775808 ≤ n ∧ n ≤ 9223372036854775807 by omega⟩; have hnx : New tSI wr.heap.size wr (siCells ⟨a, n⟩) ⟨a, n⟩ := ⟨[], tSI_own_mk hsi, List.nodup_nil, fun b hb => by simp at hb⟩; have HNX := Lib.hid hnx; clear hnx hsi HO
    go_wp2_with (at_builtin
                 refine wpList_append_new (.tmp 37) (.tmp 41) rfl 54 rfl slPst rfl HN.out (Below.refl _ _) rfl HNX.out (by have := HL.out; omega) (by have := HL.out; unfold maxLen; omega) hwz ?_; intro v' w5 hn5 hb5; have HN5 := Lib.hid hn5; have HB5 := Lib.hid (HB.out.trans hb5)
                 clear hn5 hb5)
    go_ret; exact ⟨⟨_, rfl, by rw [hAD.out]; exact HN5.out⟩, HB5.out⟩
end Go.Proofs.YtifcelebfagjbaaGreatDoor
namespace Go.Proofs.YtifcelebfagjbaaGreatDoor
open Go.RowKit Go.Tw Go.Tw.Ord Go.Tw.Po Go.Sort
theorem load_blk {w : World} {b : Nat} {A : Array Value} {t : TypeId} {n : Nat} (h : w.heap[b]? = some (.cells A t (0, 0))) (hn : A.size = n) (P : Program) : Sem.run P (loadCellsFrom ⟨b, 0, none⟩ 0 n #[]) w = .ok A w := by
 have := run_loadCellsFrom_list P w ⟨b, 0, none⟩ A.toList n (by simpa using hn) fun j u hu => by
  rw [Addr.add_lit, Nat.zero_add, cell_of_row _ _ _ _ _ _ h]; rw [← hu]; simp
 simpa using this
set_option maxRecDepth 100000 in
set_option maxHeartbeats 2000000 in
theorem move_any (c : List Acc) (A : Array Value) (va : Value) (x : Chg) (xa : Option Addr) (xn xc : Nat) (B g : Nat) (key : ByteArray) (tm : Int) (l : List SI) (v : Value) (n m : Int) (w : World) (h : DW B g key tm l w v) (hB : B ≤ w.heap.size) (hl : l.length ≤ 900) (hm : Amt m l) (hm2 : m ≤ 1152921504606846976) (hm0 : 0 ≤ m) (hn : -1125899906842624 ≤ n ∧ n ≤ 1125899906842624)
  (hA : CfgA A va) (hc : SlIs (tAcc 138) (· < w.heap.size) w va c) (hk : CfOk c) (h1 : x.veh.size ≤ 30) (h2 : x.sys.size ≤ 30) :
  Calls Tryz.prog 35 #[.pointer (some ⟨g, 0, none⟩), .agg A, .agg #[.string x.key, .string x.veh, .string x.sys, .int .i64 x.cls, .int .i64 x.tm, .slice xa xn xc, .int .i64 x.c], .int .i64 n] w fun e w' => e = .returned (.tuple #[]) ∧ (∃ v', DW B g key tm (moveP c l x n) w' v') ∧ DK B g w w' := by
 have b1 := bl_alloc (bl_alloc (Below.refl w.heap.size w) (.cells A 46)) (.cells #[.string x.key, .string x.veh, .string x.sys, .int .i64 x.cls, .int .i64 x.tm, .slice xa xn xc, .int .i64 x.c] 49); have n0 := alloc2_0 w (.cells A 46) (.cells #[.string x.key, .string x.veh, .string x.sys, .int .i64 x.cls, .int .i64 x.tm, .slice xa xn xc, .int .i64 x.c] 49); have hld := load_blk n0 hA.size Tryz.prog; have HAC := Lib.hid (accounts_any c A va x xa xn xc _ hA (hc.step b1) hk h1 h2); have HM := Lib.hid (show moveP c l x n = addP (addP l (debC c x) n) (creC x) (-n) from rfl)
 have hdz : (debC c x).size ≤ maxLen := by
  unfold debC maxLen
  split
  · rename_i nm he
    have := owner_short hk he; rw [ByteArray.size_append]
    show 8 + nm.size ≤ _
    omega
  · rw [ByteArray.size_append]
    show 5 + x.veh.size ≤ _
    omega
 have hcz : (creC x).size ≤ maxLen := by
  have hos : (orS [x.sys, sDash]).size ≤ 30 := by
   unfold orS orS orS
   split
   · show (if sDash = es then es else sDash).size ≤ 30
     split <;> decide
   · exact h2
  unfold creC maxLen; rw [ByteArray.size_append]
  show 8 + (orS [x.sys, sDash]).size ≤ _
  omega
 generalize debC c x = d at *; generalize creC x = r at *; have HADD := Lib.hid (fun (l : List SI) (v : Value) (a : ByteArray) (n : Int) (w : World) (h : DW B g key tm l w v) (hB : B ≤ w.heap.size) hl ha hm hn => add_any B g key tm l v a n w h hB hl ha hm hn); have HH := Lib.hid h; have HB1 := Lib.hid b1; have hl1 := addP_len l d n; have hamt := Lib.hid hm; have hwr : IntKind.i64.wrap (-n) = -n := wrap_in (by omega) (by omega); clear b1 n0 h hm hA hc
 go_enter Tryz.func35, Tryz.ntmps35
 go_wp2_with (first | (refine wpList_loadA _ rfl 46 rfl Tryz.isAgg46 Tryz.sizeOf46 rfl (by with_reducible assumption) ?_) | fail)
 with_reducible refine HAC.out.mono ?_
 rintro e w2 ⟨rfl, hb⟩; have HB2 := Lib.hid (bl_trans HB1.out hb); have HD2 := Lib.hid (HH.out.below HB2.out); have hs2 := HB2.out.size; clear hb HAC hld
 go_wp2_with (fail)
 with_reducible refine (HADD.out l v d n w2 HD2.out (by omega) (by omega) hdz (hamt.out.mono (by omega)) (by omega)).mono ?_
 rintro e w3 ⟨rfl, ⟨v3, hd3⟩, hk3, hs3⟩; have HD3 := Lib.hid hd3; have HK3 := Lib.hid hk3; clear hd3 hk3
 go_wp2_with (fail)
 with_reducible refine (HADD.out (addP l d n) v3 r (-n) w3 HD3.out (by omega) (by omega) hcz ((addP_amt (k := 1125899906842624) hamt.out hm0 (by omega) (by omega)).mono (by omega)) (by omega)).mono ?_
 rintro e w4 ⟨rfl, hd4, hk4, hs4⟩; have HD4 := Lib.hid hd4; have HK4 := Lib.hid hk4; clear hd4 hk4; go_wp2
 go_end0
 exact ⟨rfl, by rw [HM.out]; exact HD4.out, ((DK.of_below (HB2.out.mono hB) (Nat.le_of_lt HH.out.lt)).trans HK3.out).trans HK4.out⟩
end Go.Proofs.YtifcelebfagjbaaGreatDoor
namespace Go.Tw
open Go.RowKit
section
variable {P : Program} {ops : Array Oper} {Q : Exit → Act → World → Prop} {md : Region.Mode} {D : Nat → Nat} {S : World → Prop}
def wpD (P : Program) (md : Region.Mode) (ops : Array Oper) (Q : Exit → Act → World → Prop) (D : Nat → Nat) (S : World → Prop) : Nat → Array Bool → Act → World → Prop
 | 0, listed, a, w => Region.ready md ops listed = [] ∧ Q .normal a w
 | fuel + 1, listed, a, w =>
  (Region.ready md ops listed = [] → Q .normal a w) ∧
  ∀ i ∈ Region.ready md ops listed, wpOp P ops Q i (fun a' w' => ((D i = 0 → S w') ∧ (D i = 1 → w' = w)) ∧ wpD P md ops Q D S fuel (listed.setIfInBounds i true) a' w') a w
theorem wpAny_of_D : ∀ (fuel : Nat) (listed : Array Bool) (a : Act) (w : World), wpD P md ops Q D S fuel listed a w → wpAny P md ops Q fuel listed a w
 | 0, _, _, _, h => h
 | fuel + 1, _, _, _, h => ⟨h.1, fun i hi => wpOp_mono (fun a' w' h' => wpAny_of_D fuel _ a' w' h'.2) (h.2 i hi)⟩
def Region.behind (md : Region.Mode) (ops : Array Oper) (D : Nat → Nat) (i : Nat) : Bool :=
 (List.range ops.size).all fun j => decide (j = i) || decide (D j = 0) || decide (D j = 1) || (match ops[j]? with | some oj => oj.after.any fun e => Region.binds md e && decide (e.on = i) | none => true)
theorem behind_spec {i : Nat} (h : Region.behind md ops D i = true) {j : Nat} {oj : Oper} (hoj : ops[j]? = some oj) (hji : j ≠ i) (hn : ∀ e ∈ oj.after, Region.binds md e = true → e.on ≠ i) : D j = 0 ∨ D j = 1 := by
 unfold Region.behind at h
 have hj : j < ops.size := by
  rcases Nat.lt_or_ge j ops.size with q | q
  · exact q
  · rw [Array.getElem?_eq_none q] at hoj; cases hoj
 have := List.all_eq_true.1 h j (List.mem_range.2 hj); rw [hoj] at this; simp only [Bool.or_eq_true, decide_eq_true_eq, Array.any_eq_true, Bool.and_eq_true] at this
 rcases this with ((q | q) | q) | ⟨k, hk, q1, q2⟩
 · exact absurd q hji
 · exact .inl q
 · exact .inr q
 · exact absurd q2 (hn _ (Array.getElem_mem hk) q1)
theorem wpD_first {S' : World → Prop} {i : Nat} {oi : Oper} {v : Value} (hi : ops[i]? = some oi) (hsel : ∀ (j : Nat) (o : Oper) cs b, ops[j]? = some o → o.op ≠ .select cs b)
  (hQ : ∀ c a w, Q (.panic c) (a.put oi.dst v) w → Q (.panic c) a w)
  (hD : ∀ j oj, ops[j]? = some oj → j ≠ i → (∀ e ∈ oj.after, Region.binds md e = true → e.on ≠ i) → ∀ w w', S' w → ((D j = 0 → S w') ∧ (D j = 1 → w' = w)) → S' w') (hD0 : ∀ w', S' w' → D i = 0 → S w') :
  ∀ (fuel : Nat) (listed : Array Bool) (a : Act) (w : World),
   (∀ j oj, ops[j]? = some oj → j ≠ i → listed.getD j true = false → (∀ e ∈ oj.after, Region.binds md e = true → e.on ≠ i) → oi.apart ops oj = true) →
   i ∈ Region.ready md ops listed → YieldsIf P ops S' oi v a → S' w →
   wpD P md ops Q D S fuel (listed.setIfInBounds i true) (a.put oi.dst v) w → wpD P md ops Q D S (fuel + 1) listed a w := by
 intro fuel
 induction fuel with
 | zero =>
  intro listed a w _ hr hy hS H; refine ⟨fun h => (by rw [h] at hr; cases hr), fun j hj => ?_⟩
  by_cases hji : j = i
  · subst hji; exact hy.wpOp hi hS ⟨⟨hD0 w hS, fun _ => rfl⟩, H⟩
  · have := ready_mono hj hji
    rw [H.1] at this
    cases this
 | succ fuel ih =>
  intro listed a w hfree hr hy hS H; refine ⟨fun h => (by rw [h] at hr; cases hr), fun j hj => ?_⟩
  by_cases hji : j = i
  · subst hji; exact hy.wpOp hi hS ⟨⟨hD0 w hS, fun _ => rfl⟩, H⟩
  · have h1 := H.2 j (ready_mono hj hji)
    obtain ⟨hjun, oj, hoj, hall⟩ := mem_ready.1 hj; have hun := (mem_ready.1 hr).1
    have hnot : ∀ e ∈ oj.after, Region.binds md e = true → e.on ≠ i := fun e he hb heq => by
     have h1 := hall e he hb; rw [heq, getD_both hun] at h1
     cases h1
    have hDj := hD j oj hoj hji hnot; have h2 := wpOp_putIf hoj (hfree j oj hoj hji hjun hnot) (fun cs b => hsel i oi cs b hi) (fun cs b => hsel j oj cs b hoj) hQ hy h1
    have hfree' : ∀ k ok, ops[k]? = some ok → k ≠ i → (listed.setIfInBounds j true).getD k true = false →
      (∀ e ∈ ok.after, Region.binds md e = true → e.on ≠ i) → oi.apart ops ok = true := fun k ok hk hki hun hno => by
     refine hfree k ok hk hki ?_ hno
     by_cases hjk : j = k
     · subst hjk; exact hjun
     · rw [getD_set_ne true hjk] at hun; exact hun
    refine wpOp_mono (fun a' w' h3 => ⟨h3.2.1, ih (listed.setIfInBounds j true) a' w' hfree' (ready_mono hr (Ne.symm hji)) h3.1 (hDj w w' hS h3.2.1) ?_⟩) h2; rw [Array.setIfInBounds_comm _ _ hji]; exact h3.2.2
theorem wpD_take {i : Nat} {oi : Oper} {v : Value} {fuel : Nat} {listed : Array Bool} {a : Act} {w : World} (hi : ops[i]? = some oi) (hB : (Region.behind md ops D i && Region.noSelect ops && Region.free md ops listed i && (Region.ready md ops listed).contains i) = true)
  (hQ : ∀ c a w, Q (.panic c) (a.put oi.dst v) w → Q (.panic c) a w) (hy : YieldsIf P ops S oi v a) (hS : S w)
  (h : wpD P md ops Q D S fuel (listed.setIfInBounds i true) (a.put oi.dst v) w) : wpD P md ops Q D S (fuel + 1) listed a w := by
 simp only [Bool.and_eq_true] at hB; obtain ⟨⟨⟨h1, h5⟩, h6⟩, h7⟩ := hB; have hr : i ∈ Region.ready md ops listed := by simpa using h7
 exact wpD_first (S' := S) hi (Region.noSelect_spec h5) hQ (fun j oj hoj hji hn w w' hw hd => by
  rcases behind_spec h1 hoj hji hn with q | q
  · exact hd.1 q
  · rw [hd.2 q]; exact hw) (fun w' hw _ => hw) fuel listed a w (Region.free_spec hi h6) hr hy hS h
theorem wpD_pure {i : Nat} {oi : Oper} {v : Value} {fuel : Nat} {listed : Array Bool} {a : Act} {w : World} (hi : ops[i]? = some oi) (hB : (decide (D i ≠ 0) && Region.noSelect ops && Region.free md ops listed i && (Region.ready md ops listed).contains i) = true)
  (hQ : ∀ c a w, Q (.panic c) (a.put oi.dst v) w → Q (.panic c) a w) (hy : YieldsIf P ops (fun _ => True) oi v a)
  (h : wpD P md ops Q D S fuel (listed.setIfInBounds i true) (a.put oi.dst v) w) : wpD P md ops Q D S (fuel + 1) listed a w := by
 simp only [Bool.and_eq_true] at hB; obtain ⟨⟨⟨h1, h5⟩, h6⟩, h7⟩ := hB; have hr : i ∈ Region.ready md ops listed := by simpa using h7
 exact wpD_first (S' := fun _ => True) hi (Region.noSelect_spec h5) hQ (fun j oj hoj hji hn w w' _ _ => trivial) (fun w' _ hd => by simp at h1; exact absurd hd h1) fuel listed a w (Region.free_spec hi h6) hr hy trivial h
def AllReadyD (P : Program) (md : Region.Mode) (ops : Array Oper) (Q : Exit → Act → World → Prop) (D : Nat → Nat) (S : World → Prop) (fuel : Nat) (listed : Array Bool) (a : Act) (w : World) (rs : List Nat) : Prop :=
 ∀ i ∈ rs, wpOp P ops Q i (fun a' w' => ((D i = 0 → S w') ∧ (D i = 1 → w' = w)) ∧ wpD P md ops Q D S fuel (listed.setIfInBounds i true) a' w') a w
theorem AllReadyD.nil {fuel : Nat} {listed : Array Bool} {a : Act} {w : World} : AllReadyD P md ops Q D S fuel listed a w [] := fun _ h => by cases h
theorem AllReadyD.cons {fuel : Nat} {listed : Array Bool} {a : Act} {w : World} {i : Nat} {o : Oper} {rs : List Nat} (ho : ops[i]? = some o)
  (h : ∀ K' : Act → World → Prop, Shut (∀ a' w', ((D i = 0 → S w') ∧ (D i = 1 → w' = w)) → (((D i = 0 → S w') ∧ (D i = 1 → w' = w)) → wpD P md ops Q D S fuel (listed.setIfInBounds i true) a' w') → K' a' w') → if Region.wanted o (yielded ops a.tmps) = true then Oper.wp P o a w K' Q else K' (a.put o.dst undef) w)
  (hs : AllReadyD P md ops Q D S fuel listed a w rs) : AllReadyD P md ops Q D S fuel listed a w (i :: rs) := fun j hj => by
 rcases List.mem_cons.1 hj with rfl | hj
 · exact wpOp_step ho (fun K' hK => h K' (fun a w hS hW => hK a w ⟨hS, hW hS⟩))
 · exact hs j hj
theorem wpD_ready {rs : List Nat} {fuel : Nat} {listed : Array Bool} {a : Act} {w : World} (hr : Region.ready md ops listed = rs) (hB : (!rs.isEmpty) = true)
  (h : AllReadyD P md ops Q D S fuel listed a w rs) : wpD P md ops Q D S (fuel + 1) listed a w := by
 refine ⟨fun h0 => ?_, fun i hi => ?_⟩
 · rw [h0] at hr; rw [← hr] at hB; simp at hB
 · exact h i (hr ▸ hi)
theorem gk1 (i : Nat) {oi : Oper} {v : Value} {fuel : Nat} {listed : Array Bool} {a : Act} {w : World} (hi : ops[i]? = some oi) (hy : ∀ w, S w → (execOp a.eval oi).run P w = .ok (.value v) w)
  (h : wpD P md ops Q D S fuel (listed.setIfInBounds i true) (a.put oi.dst v) w) (hB : (Region.behind md ops D i && Region.noSelect ops && Region.free md ops listed i && (Region.ready md ops listed).contains i) = true := by kernel_rfl)
  (hQ : ∀ c a w, Q (.panic c) (a.put oi.dst v) w → Q (.panic c) a w := by exact fun _ _ _ h => h) (hw : Region.wanted oi (yielded ops a.tmps) = true := by kernel_rfl) (hS : S w := by assumption) : wpD P md ops Q D S (fuel + 1) listed a w := wpD_take hi hB hQ (Or.inl ⟨hw, hy⟩) hS h
theorem gk3 (i : Nat) {o : Oper} {fuel : Nat} {listed : Array Bool} {a : Act} {w : World} (ho : ops[i]? = some o)
  (h : ∀ K' : Act → World → Prop, Shut (∀ a' w', ((D i = 0 → S w') ∧ (D i = 1 → w' = w)) → (((D i = 0 → S w') ∧ (D i = 1 → w' = w)) → wpD P md ops Q D S fuel (listed.setIfInBounds i true) a' w') → K' a' w') → Oper.wp P o a w K' Q)
  (hr : Region.ready md ops listed = [i] := by kernel_rfl) (hw : Region.wanted o (yielded ops a.tmps) = true := by kernel_rfl) : wpD P md ops Q D S (fuel + 1) listed a w :=
 wpD_ready (rs := [i]) hr rfl (AllReadyD.cons ho (fun K' hK => by rw [if_pos hw]; exact h K' hK) AllReadyD.nil)
theorem gk5 {d : Nat} {w : World} {S' : World → Prop} {G K : Act → World → Prop} (h : ∀ a' w', ((d = 0 → S' w') ∧ (d = 1 → w' = w)) → (((d = 0 → S' w') ∧ (d = 1 → w' = w)) → G a' w') → K a' w') (hd : d = 0) {a' : Act} {w' : World} (hS : S' w') (hG : S' w' → G a' w') : K a' w' :=
 h a' w' ⟨fun _ => hS, fun e => absurd (hd.symm.trans e) (by decide)⟩ fun g => hG (g.1 hd)
theorem wpD_done {fuel : Nat} {listed : Array Bool} {a : Act} {w : World} (hB : (Region.ready md ops listed).isEmpty = true) (h : Q .normal a w) : wpD P md ops Q D S fuel listed a w := by
 have hr : Region.ready md ops listed = [] := by simpa using hB
 cases fuel with
 | zero => exact ⟨hr, h⟩
 | succ fuel => exact ⟨fun _ => h, fun i hi => by rw [hr] at hi; cases hi⟩
theorem wp_region_D {id : Nat} {a : Act} {w : World} (D : Nat → Nat) (S : World → Prop) (hm : P.follows .mixedOrders = true) (hS : S w.drew)
  (h : S w.drew → wpD P .any ops Q D S ops.size (Array.replicate ops.size false) a w.drew) : (Code.region id ops true).wp P Q a w :=
 wp_region_any hm (wpAny_of_D _ _ _ _ (h hS))
end
end Go.Tw
namespace Go.Tw.Po
open Go.RowKit Go.Tw Go.Proofs.YtifcelebfagjbaaGreatDoor
noncomputable def entryP (c : List Acc) (x : Chg) (old v : Int) : Ent × Int :=
 if chkC x ≠ 0 then (zeroE, chkC x) else if old < 0 ∨ 1125899906842624 < old then (zeroE, 13) else if v < 0 ∨ 2147483648 < v then (zeroE, 1) else if old = x.c then (zeroE, 10) else (⟨keyC x.key v, x.tm, moveP c [] x (x.c - old)⟩, 0)
theorem ey_chk {c : List Acc} {x : Chg} {old v : Int} (h : chkC x ≠ 0) : entryP c x old v = (zeroE, chkC x) := by unfold entryP; rw [if_pos h]
theorem ey_s {c : List Acc} {x : Chg} {old v : Int} (h : chkC x = 0) : entryP c x old v = if old < 0 ∨ 1125899906842624 < old then (zeroE, 13) else if v < 0 ∨ 2147483648 < v then (zeroE, 1) else if old = x.c then (zeroE, 10) else (⟨keyC x.key v, x.tm, moveP c [] x (x.c - old)⟩, 0) := by unfold entryP; rw [if_neg (by simp [h])]
end Go.Tw.Po
namespace Go.Proofs.YtifcelebfagjbaaGreatDoor
open Go.RowKit Go.Tw Go.Tw.Ord Go.Tw.Po Go.Sort
def FmtAll (w : World) : Prop := ∀ n, i64ok n → FmtOk n w
theorem FmtAll.step {w w' : World} (h : FmtAll w) (hb : Below w.heap.size w w') : FmtAll w' := fun n hn => (h n hn).step hb
structure YW (n : Nat) (A : Array Value) (x : Chg) (v : Value) (wr : World) : Prop where
 b0 : wr.heap[n]? = some (.cells A 46 (0, 0))
 b1 : wr.heap[n + 1]? = some (.cells #[.string x.key, .string x.veh, .string x.sys, .int .i64 x.cls, .int .i64 x.tm, v, .int .i64 x.c] 49 (0, 0))
 b2 : wr.heap[n + 2]? = some (.cells #[.string ⟨#[]⟩, .int .i64 0, .slice none 0 0] 56 (0, 0))
theorem YW.step {n B : Nat} {A : Array Value} {x : Chg} {v : Value} {w w' : World} (h : YW n A x v w) (hb : Below B w w') (hB : n + 2 < B) : YW n A x v w' :=
 ⟨(hb.block _ (by omega)).trans h.b0, (hb.block _ (by omega)).trans h.b1, (hb.block _ (by omega)).trans h.b2⟩
def XB (n : Nat) (x : Chg) (v : Value) (wr : World) : Prop := wr.heap[n]? = some (.cells #[.string x.key, .string x.veh, .string x.sys, .int .i64 x.cls, .int .i64 x.tm, v, .int .i64 x.c] 49 (0, 0))
set_option maxRecDepth 100000 in
set_option maxHeartbeats 4000000 in
theorem entry_any (c : List Acc) (A : Array Value) (va : Value) (x : Chg) (vx : Value) (old v : Int) (w : World) (hA : CfgA A va) (hc : SlIs (tAcc 138) (· < w.heap.size) w va c) (hk : CfOk c) (hx : ChgOk x) (hxc : COk x) (hv : SlIs tSI (· < w.heap.size) w vx x.ls) (ho : i64ok old) (hvv : i64ok v) (hf : FmtAll w) :
  Calls Tryz.prog 12 #[.agg A, .agg #[.string x.key, .string x.veh, .string x.sys, .int .i64 x.cls, .int .i64 x.tm, vx, .int .i64 x.c], .int .i64 old, .int .i64 v] w fun r w' => (∃ vp, r = .returned (.tuple #[.agg #[.string (entryP c x old v).1.key, .int .i64 (entryP c x old v).1.tm, vp], .int .i64 (entryP c x old v).2]) ∧ SlIs tSI (· < w'.heap.size) w' vp (entryP c x old v).1.ps) ∧ Below w.heap.size w w' := by
 have h0 := alloc3 w (.cells A 46) (.cells #[.string x.key, .string x.veh, .string x.sys, .int .i64 x.cls, .int .i64 x.tm, vx, .int .i64 x.c] 49) (.cells #[.string ⟨#[]⟩, .int .i64 0, .slice none 0 0] 56); have HY := Lib.hid (show YW w.heap.size A x vx _ from ⟨h0.1, h0.2.1, h0.2.2⟩); have HB0 := Lib.hid (bl_alloc (bl_alloc (bl_alloc (Below.refl w.heap.size w) (.cells A 46)) (.cells #[.string x.key, .string x.veh, .string x.sys, .int .i64 x.cls, .int .i64 x.tm, vx, .int .i64 x.c] 49)) (.cells #[.string ⟨#[]⟩, .int .i64 0, .slice none 0 0] 56)); have HCK := Lib.hid (pcheck_any x vx _ hx (hv.step HB0.out) (by have := hxc.ls; omega)); obtain ⟨xa, xc, _, _, rfl, -⟩ := id hv; have HA := Lib.hid hA; have HC := Lib.hid hc; have HK := Lib.hid hk; have HX := Lib.hid hx; have HXC := Lib.hid hxc; have HV := Lib.hid hv; have HF := Lib.hid hf; unfold i64ok at ho hvv; clear hA hc hk hx hxc hv hf h0; obtain ⟨z, hz⟩ : ∃ z, chkC x = z := ⟨_, rfl⟩; rw [hz] at HCK
 by_cases hz0 : z = 0
 case neg =>
  have HR := Lib.hid (ey_chk (c := c) (x := x) (old := old) (v := v) (by rw [hz]; exact hz0)); rw [hz] at HR; have hz1 : (z != 0) = true := by simpa using hz0
  clear hz hz0
  go_enter Tryz.func12, Tryz.ntmps12
  go_wp2_with (fail)
  with_reducible refine HCK.out.mono ?_
  rintro r w2 ⟨rfl, hb⟩; have HY2 := Lib.hid (HY.out.step hb (by simp)); have HB2 := Lib.hid (bl_trans HB0.out hb); obtain ⟨e0, e1, e2, ef⟩ := blk3 HY2.out.b2; have hlt := lt_of_heap HY2.out.b2; clear hb HCK HY; go_wp2; refine bodyPost_ret (v := .tuple #[.agg #[.string ⟨#[]⟩, .int .i64 0, .slice none 0 0], .int .i64 z]) (by simp [results, Tryz.results12, go_sem, e0, e1, e2]) rfl ⟨⟨.slice none 0 0, by (rw [HR.out]; try rfl), by rw [HR.out]; exact SlIs.nil⟩, ?_⟩; have hbw := HB2.out
  (repeat (first | (with_reducible exact hbw) | (with_reducible apply bl_drewN) | (with_reducible apply bl_alloc) | ((with_reducible refine bl_set ?_ _ ?_); rotate_left; focus (first | exact Nat.le_refl _ | (simp; done) | (simp; omega)))))
 subst hz0; have HS := Lib.hid (ey_s (c := c) (old := old) (v := v) hz); have hz1 : ((0 : Int) != 0) = false := rfl; have HCF := Lib.hid (chk_facts hz); clear hz
 go_enter Tryz.func12, Tryz.ntmps12
 go_wp2_with (fail)
 with_reducible refine HCK.out.mono ?_
 rintro r w2 ⟨rfl, hb⟩; have HY2 := Lib.hid (HY.out.step hb (by simp)); have HB2 := Lib.hid (bl_trans HB0.out hb); obtain ⟨e0, e1, e2, ef⟩ := blk3 HY2.out.b2; obtain ⟨-, -, -, -, -, -, x6, -⟩ := blk7 HY2.out.b1; have hlt := lt_of_heap HY2.out.b2; clear hb HCK HY; have ho3 : old < 0 ∨ (0 ≤ old ∧ 1125899906842624 < old) ∨ (0 ≤ old ∧ old ≤ 1125899906842624) := by omega
 rcases ho3 with t1 | ⟨t1, t2⟩ | ⟨t1, t2⟩
 · have HR := Lib.hid (HS.out.trans (if_pos (.inl t1)))
   go_wp2_with (fail)
   go_wp2; refine bodyPost_ret (v := .tuple #[.agg #[.string ⟨#[]⟩, .int .i64 0, .slice none 0 0], .int .i64 13]) (by simp [results, Tryz.results12, go_sem, e0, e1, e2]) rfl ⟨⟨.slice none 0 0, by (rw [HR.out]; try rfl), by rw [HR.out]; exact SlIs.nil⟩, ?_⟩; have hbw := HB2.out
   (repeat (first | (with_reducible exact hbw) | (with_reducible apply bl_drewN) | (with_reducible apply bl_alloc) | ((with_reducible refine bl_set ?_ _ ?_); rotate_left; focus (first | exact Nat.le_refl _ | (simp; done) | (simp; omega)))))
 · have HR := Lib.hid (HS.out.trans (if_pos (.inr t2)))
   have HX1 := Lib.hid (show ∀ W, Calls Tryz.prog 33 #[.int .i64 old] W fun e w' => e = .returned (.bool false) ∧ W = w' from fun W => by rw [← fitsM_no (n := old) (.inr t2)]; exact mFits_any _ W)
   go_wp2_with (go_at_call 33; with_reducible refine (HX1.out _).mono ?_; rintro e w1 ⟨rfl, rfl⟩)
   go_wp2; refine bodyPost_ret (v := .tuple #[.agg #[.string ⟨#[]⟩, .int .i64 0, .slice none 0 0], .int .i64 13]) (by simp [results, Tryz.results12, go_sem, e0, e1, e2]) rfl ⟨⟨.slice none 0 0, by (rw [HR.out]; try rfl), by rw [HR.out]; exact SlIs.nil⟩, ?_⟩; have hbw := HB2.out
   (repeat (first | (with_reducible exact hbw) | (with_reducible apply bl_drewN) | (with_reducible apply bl_alloc) | ((with_reducible refine bl_set ?_ _ ?_); rotate_left; focus (first | exact Nat.le_refl _ | (simp; done) | (simp; omega)))))
 have HS := Lib.hid (HS.out.trans (if_neg (by omega))); have HX1 := Lib.hid (show ∀ W, Calls Tryz.prog 33 #[.int .i64 old] W fun e w' => e = .returned (.bool true) ∧ W = w' from fun W => by rw [← fitsM_yes (n := old) (by omega) t2]; exact mFits_any _ W); have hv3 : v < 0 ∨ (0 ≤ v ∧ 2147483648 < v) ∨ (0 ≤ v ∧ v ≤ 2147483648) := by omega
 rcases hv3 with t3 | ⟨t3, t4⟩ | ⟨t3, t4⟩
 · have HR := Lib.hid (HS.out.trans (if_pos (.inl t3)))
   go_wp2_with (go_at_call 33; with_reducible refine (HX1.out _).mono ?_; rintro e w1 ⟨rfl, rfl⟩)
   go_wp2; refine bodyPost_ret (v := .tuple #[.agg #[.string ⟨#[]⟩, .int .i64 0, .slice none 0 0], .int .i64 1]) (by simp [results, Tryz.results12, go_sem, e0, e1, e2]) rfl ⟨⟨.slice none 0 0, by (rw [HR.out]; try rfl), by rw [HR.out]; exact SlIs.nil⟩, ?_⟩; have hbw := HB2.out
   (repeat (first | (with_reducible exact hbw) | (with_reducible apply bl_drewN) | (with_reducible apply bl_alloc) | ((with_reducible refine bl_set ?_ _ ?_); rotate_left; focus (first | exact Nat.le_refl _ | (simp; done) | (simp; omega)))))
 · have HR := Lib.hid (HS.out.trans (if_pos (.inr t4)))
   go_wp2_with (go_at_call 33; with_reducible refine (HX1.out _).mono ?_; rintro e w1 ⟨rfl, rfl⟩)
   go_wp2; refine bodyPost_ret (v := .tuple #[.agg #[.string ⟨#[]⟩, .int .i64 0, .slice none 0 0], .int .i64 1]) (by simp [results, Tryz.results12, go_sem, e0, e1, e2]) rfl ⟨⟨.slice none 0 0, by (rw [HR.out]; try rfl), by rw [HR.out]; exact SlIs.nil⟩, ?_⟩; have hbw := HB2.out
   (repeat (first | (with_reducible exact hbw) | (with_reducible apply bl_drewN) | (with_reducible apply bl_alloc) | ((with_reducible refine bl_set ?_ _ ?_); rotate_left; focus (first | exact Nat.le_refl _ | (simp; done) | (simp; omega)))))
 have HS := Lib.hid (HS.out.trans (if_neg (by omega)))
 by_cases t5 : old = x.c
 · have HR := Lib.hid (HS.out.trans (if_pos t5))
   have t6 : (old == x.c) = true := by simpa using t5
   clear t5
   go_wp2_with (go_at_call 33; with_reducible refine (HX1.out _).mono ?_; rintro e w1 ⟨rfl, rfl⟩)
   go_wp2; refine bodyPost_ret (v := .tuple #[.agg #[.string ⟨#[]⟩, .int .i64 0, .slice none 0 0], .int .i64 10]) (by simp [results, Tryz.results12, go_sem, e0, e1, e2]) rfl ⟨⟨.slice none 0 0, by (rw [HR.out]; try rfl), by rw [HR.out]; exact SlIs.nil⟩, ?_⟩; have hbw := HB2.out
   (repeat (first | (with_reducible exact hbw) | (with_reducible apply bl_drewN) | (with_reducible apply bl_alloc) | ((with_reducible refine bl_set ?_ _ ?_); rotate_left; focus (first | exact Nat.le_refl _ | (simp; done) | (simp; omega)))))
 have HR := Lib.hid (HS.out.trans (if_neg t5)); have t6 : (old == x.c) = false := by simpa using t5
 clear t5 HS
 go_upto_region 11 with (go_at_call 33; with_reducible refine (HX1.out _).mono ?_; rintro e w1 ⟨rfl, rfl⟩)
 have hA3 := bl_alloc (Below.refl w2.heap.size w2) (.cells #[.string ⟨#[]⟩, .int .i64 0, .slice none 0 0] 105); have g3 := heap_alloc_new w2 (.cells #[.string ⟨#[]⟩, .int .i64 0, .slice none 0 0] 105); generalize w2.alloc (.cells #[.string ⟨#[]⟩, .int .i64 0, .slice none 0 0] 105) = wb at hA3 g3 ⊢; have HY3 := Lib.hid (HY2.out.step hA3 hlt); have HB3 := Lib.hid (bl_trans HB2.out hA3); have HG3 := Lib.hid g3; have hxb : XB (w.heap.size + 1) x (.slice xa x.ls.length xc) wb := HY3.out.b1; have HL0 := Lib.hid (show ∀ w', XB (w.heap.size + 1) x (.slice xa x.ls.length xc) w' → w'.cell? ⟨w.heap.size + 1, 0, none⟩ = some (.string x.key) from fun w' h => (blk7 h).1); have HL4 := Lib.hid (show ∀ w', XB (w.heap.size + 1) x (.slice xa x.ls.length xc) w' → w'.cell? ⟨w.heap.size + 1, 4, none⟩ = some (.int .i64 x.tm) from fun w' h => (blk7 h).2.2.2.2.1); have HKY := Lib.hid (show ∀ W, Below w.heap.size w W → Calls Tryz.prog 34 #[.string x.key, .int .i64 v] W fun e w' => e = .returned (.string (keyC x.key v)) ∧ Below W.heap.size W w' from fun W hW => key_any x.key v W (by have := HXC.out.key; omega) (by unfold i64ok; omega) ((HF.out v (by unfold i64ok; omega)).step hW)); clear hA3 g3 e0 e1 e2 ef x6; refine wp_region_D (fun j => if j < 12 then 0 else if j < 12 then 1 else 2) (XB (w.heap.size + 1) x (.slice xa x.ls.length xc)) (by kernel_rfl) (hxb) (fun hHeld => ?_); refine gk1 0 (v := ?_) rfl ?_ ?_
 rotate_left; focus (intro w9 hS9; clear hS9; go_simp; (try with_reducible rfl)); (try simp only [gkA, gkB, gkC, Act.put, gkD, gkE, gkF])
 refine gk1 1 (v := ?_) rfl ?_ ?_
 rotate_left; focus (intro w9 hS9; have z0 := HL0.out w9 hS9; clear hS9; go_simp; (try with_reducible rfl)); (try simp only [gkA, gkB, gkC, Act.put, gkD, gkE, gkF])
 refine gk1 2 (v := ?_) rfl ?_ ?_
 rotate_left; focus (intro w9 hS9; clear hS9; go_simp; (try with_reducible rfl)); (try simp only [gkA, gkB, gkC, Act.put, gkD, gkE, gkF])
 refine gk1 4 (v := ?_) rfl ?_ ?_
 rotate_left; focus (intro w9 hS9; clear hS9; go_simp; (try with_reducible rfl)); (try simp only [gkA, gkB, gkC, Act.put, gkD, gkE, gkF])
 refine gk1 5 (v := ?_) rfl ?_ ?_
 rotate_left; focus (intro w9 hS9; have z0 := HL4.out w9 hS9; clear hS9; go_simp; (try with_reducible rfl)); (try simp only [gkA, gkB, gkC, Act.put, gkD, gkE, gkF])
 refine wpD_ready (rs := [3]) (by kernel_rfl) (by kernel_rfl) ?_; refine AllReadyD.cons rfl (fun K hK => ?_) AllReadyD.nil; go_simp
 with_reducible refine (HKY.out _ (Below.drew HB3.out)).mono ?_
 rintro r w5 ⟨rfl, hb5⟩; have HB35 := Lib.hid (show Below wb.heap.size wb w5 from bl_trans (Below.drew (Below.refl _ _)) hb5); clear hb5; clear hHeld; refine gk5 hK.out rfl ((HB35.out.block _ (lt_of_heap HY3.out.b1)).trans HY3.out.b1) (fun hHeld => ?_); clear hK K; have g5 := (HB35.out.block _ (lt_of_heap HG3.out)).trans HG3.out; obtain ⟨q0, q1, q2, qf⟩ := blk3 g5; have hl5 : w2.heap.size < w5.heap.size := lt_of_heap g5; have HG5 := Lib.hid g5; have hne : w.heap.size + 1 ≠ w2.heap.size := by omega
 clear g5; refine gk1 6 (v := ?_) rfl ?_ ?_
 rotate_left; focus (intro w9 hS9; clear hS9; go_simp; (try with_reducible rfl)); (try simp only [gkA, gkB, gkC, Act.put, gkD, gkE, gkF])
 refine gk1 7 (v := ?_) rfl ?_ ?_
 rotate_left; focus (intro w9 hS9; clear hS9; go_simp; (try with_reducible rfl)); (try simp only [gkA, gkB, gkC, Act.put, gkD, gkE, gkF])
 refine gk3 8 rfl (fun K hK => ?_); go_simp; have HXB5 := Lib.hid (show XB (w.heap.size + 1) x (.slice xa x.ls.length xc) w5 from hHeld); clear hHeld; refine gk5 hK.out rfl ((Below.heap_setCell _ _ _ _ hne).trans HXB5.out) (fun hHeld => ?_); clear hK K; refine gk1 9 (v := ?_) rfl ?_ ?_
 rotate_left; focus (intro w9 hS9; clear hS9; go_simp; (try with_reducible rfl)); (try simp only [gkA, gkB, gkC, Act.put, gkD, gkE, gkF])
 refine gk1 10 (v := ?_) rfl ?_ ?_
 rotate_left; focus (intro w9 hS9; clear hS9; go_simp; (try with_reducible rfl)); (try simp only [gkA, gkB, gkC, Act.put, gkD, gkE, gkF])
 refine gk3 11 rfl (fun K hK => ?_); go_simp; clear hHeld; refine gk5 hK.out rfl ((Below.heap_setCell _ _ _ _ hne).trans ((Below.heap_setCell _ _ _ _ hne).trans HXB5.out)) (fun hHeld => ?_); clear hK K; refine wpD_done (by kernel_rfl) ?_; have g6 : ((w5.setCell ⟨w2.heap.size, 0, none⟩ (.string (keyC x.key v))).setCell ⟨w2.heap.size, 1, none⟩ (.int .i64 x.tm)).heap[w2.heap.size]? = some (.cells #[.string (keyC x.key v), .int .i64 x.tm, .slice none 0 0] 105 (0, 0)) := heap_setCell_same _ _ _ _ _ _ (heap_setCell_same _ _ _ _ _ _ HG5.out); have b6 : Below w.heap.size w ((w5.setCell ⟨w2.heap.size, 0, none⟩ (.string (keyC x.key v))).setCell ⟨w2.heap.size, 1, none⟩ (.int .i64 x.tm)) := bl_set (bl_set (bl_trans HB3.out HB35.out) _ HB2.out.size) _ HB2.out.size; have y6 := (HY3.out.step HB35.out (by have := lt_of_heap HY3.out.b2; omega)); have hne0 : w.heap.size ≠ w2.heap.size := by omega
 have hne2 : w.heap.size + 2 ≠ w2.heap.size := by omega
 have y7 : YW w.heap.size A x (.slice xa x.ls.length xc) ((w5.setCell ⟨w2.heap.size, 0, none⟩ (.string (keyC x.key v))).setCell ⟨w2.heap.size, 1, none⟩ (.int .i64 x.tm)) :=
  ⟨(Below.heap_setCell _ _ _ _ hne0).trans ((Below.heap_setCell _ _ _ _ hne0).trans y6.b0), (Below.heap_setCell _ _ _ _ hne).trans ((Below.heap_setCell _ _ _ _ hne).trans y6.b1), (Below.heap_setCell _ _ _ _ hne2).trans ((Below.heap_setCell _ _ _ _ hne2).trans y6.b2)⟩
 generalize (w5.setCell ⟨w2.heap.size, 0, none⟩ (.string (keyC x.key v))).setCell ⟨w2.heap.size, 1, none⟩ (.int .i64 x.tm) = w6 at g6 b6 y7 ⊢; have HY6 := Lib.hid y7; have HB6 := Lib.hid b6; have HG6 := Lib.hid g6; have hl6 : w2.heap.size < w6.heap.size := lt_of_heap g6; have hcf := HCF.out; have hws : IntKind.i64.wrap (x.c - old) = x.c - old := wrap_in (by omega) (by omega); have HMV := Lib.hid (move_any c A va x xa x.ls.length xc w6.heap.size w2.heap.size (keyC x.key v) x.tm [] (.slice none 0 0) (x.c - old) 0 w6 ⟨g6, NewL.nil, hl6⟩ (Nat.le_refl _) (by simp) (nil_amt 0) (by omega) (by omega) (by omega) HA.out (HC.out.step b6) HK.out HXC.out.veh HXC.out.sys); have hld := load_blk y7.b0 HA.out.size Tryz.prog; obtain ⟨x0, x1, x2, x3, x4, x5, x6, -⟩ := blk7 y7.b1; clear g6 b6 y6 y7 q0 q1 q2 qf hl5 HG5 HXB5 hHeld HY3 HB3 HG3 HL0 HL4 HKY HB35 hxb hcf HY2 HB2; have hl0 : w.heap.size < w6.heap.size := by omega
 have hl1 : w.heap.size + 1 < w6.heap.size := by omega
 go_wp2_with (first | (refine wpList_loadA _ rfl 46 rfl Tryz.isAgg46 Tryz.sizeOf46 rfl (by with_reducible assumption) ?_) | fail)
 with_reducible refine HMV.out.mono ?_
 rintro r w7 ⟨rfl, ⟨v7, hd7⟩, hk7⟩; obtain ⟨a7, c7, rfl, -⟩ := hd7.own.form; have HD7 := Lib.hid hd7; have HK7 := Lib.hid hk7; have e2 := (hk7.same (w.heap.size + 2) ⟨by omega, hne2⟩).trans HY6.out.b2; have HE2 := Lib.hid e2; obtain ⟨f0, f1, f2, ff⟩ := blk3 e2; obtain ⟨k0, k1, k2, kf⟩ := blk3 hd7.box; have f0' : w7.cell? ⟨w.heap.size + 1 + 1, 0, none⟩ = some (.string ⟨#[]⟩) := f0; have f1' : w7.cell? ⟨w.heap.size + 1 + 1, 1, none⟩ = some (.int .i64 0) := f1; have f2' : w7.cell? ⟨w.heap.size + 1 + 1, 2, none⟩ = some (.slice none 0 0) := f2; have ff' : ∀ j, w7.frozen? ⟨w.heap.size + 1 + 1, j, none⟩ = false := ff; have hl7 : w.heap.size + 1 + 1 < w7.heap.size := lt_of_heap e2; clear hd7 hk7 e2 f0 f1 f2 ff HMV hld x0 x1 x2 x3 x4 x5 x6; go_wp2; generalize (moveP c [] x (x.c - old)).length = len at *
 have g9 : (((w7.setCell ⟨w.heap.size + 1 + 1, 0, none⟩ (.string (keyC x.key v))).setCell ⟨w.heap.size + 1 + 1, 1, none⟩ (.int .i64 x.tm)).setCell ⟨w.heap.size + 1 + 1, 2, none⟩ (.slice a7 len c7)).heap[w.heap.size + 1 + 1]? = some (.cells #[.string (keyC x.key v), .int .i64 x.tm, .slice a7 len c7] 56 (0, 0)) :=
  heap_setCell_same _ _ _ _ _ _ (heap_setCell_same _ _ _ _ _ _ (heap_setCell_same _ _ _ _ _ _ HE2.out))
 have b9 : Below w.heap.size w (((w7.setCell ⟨w.heap.size + 1 + 1, 0, none⟩ (.string (keyC x.key v))).setCell ⟨w.heap.size + 1 + 1, 1, none⟩ (.int .i64 x.tm)).setCell ⟨w.heap.size + 1 + 1, 2, none⟩ (.slice a7 len c7)) :=
  bl_set (bl_set (bl_set (HB6.out.trans (HK7.out.bel.mono (by omega))) _ (by simp only; omega)) _ (by simp only; omega)) _ (by simp only; omega)
 have s9 : SlIs tSI (fun k => w6.heap.size ≤ k ∧ k < w7.heap.size) (((w7.setCell ⟨w.heap.size + 1 + 1, 0, none⟩ (.string (keyC x.key v))).setCell ⟨w.heap.size + 1 + 1, 1, none⟩ (.int .i64 x.tm)).setCell ⟨w.heap.size + 1 + 1, 2, none⟩ (.slice a7 len c7)) (.slice a7 len c7) (moveP c [] x (x.c - old)) :=
  HD7.out.own.sl.keep (fun _ h => h) (fun k hk => by
   have hk1 : k ≠ w.heap.size + 1 + 1 := by have := hk.1; omega
   exact (Below.heap_setCell _ _ _ _ hk1).trans ((Below.heap_setCell _ _ _ _ hk1).trans (Below.heap_setCell _ _ _ _ hk1)))
 obtain ⟨m0, m1, m2, -⟩ := blk3 g9; have hz9 : w7.heap.size = (((w7.setCell ⟨w.heap.size + 1 + 1, 0, none⟩ (.string (keyC x.key v))).setCell ⟨w.heap.size + 1 + 1, 1, none⟩ (.int .i64 x.tm)).setCell ⟨w.heap.size + 1 + 1, 2, none⟩ (.slice a7 len c7)).heap.size := by simp
 generalize ((w7.setCell ⟨w.heap.size + 1 + 1, 0, none⟩ (.string (keyC x.key v))).setCell ⟨w.heap.size + 1 + 1, 1, none⟩ (.int .i64 x.tm)).setCell ⟨w.heap.size + 1 + 1, 2, none⟩ (.slice a7 len c7) = w9 at *; refine bodyPost_ret (v := .tuple #[.agg #[.string (keyC x.key v), .int .i64 x.tm, .slice a7 len c7], .int .i64 0]) (by simp [results, Tryz.results12, go_sem, m0, m1, m2]) rfl ⟨⟨_, by rw [HR.out], ?_⟩, b9⟩; rw [HR.out]; exact s9.keep (fun k hk => by have := hk.2; omega) (SameOn.refl _ _)
end Go.Proofs.YtifcelebfagjbaaGreatDoor
