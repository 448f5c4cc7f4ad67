/-
  Layer 40 (retain): the walks of Release.
-/
import Derived.Test.YtcociikmhfopnaaRetainDel
import Derived.Test.YtcociikmhfopnaaDeep2
namespace Go.Proofs.Ytcociikmhfopnaa
open Go.RowKit Go.Tw Go.Tw.Retain

set_option maxRecDepth 100000 in
set_option maxHeartbeats 2000000 in
theorem Release_any (ims : List Img) (v : Value) (id reason : ByteArray) (w : World) (h : SlIs tImg (· < w.heap.size) w v ims) (hbig : ims.length ≤ 1000000) (hholds : ∀ im ∈ ims, im.hold.length ≤ 1000000) :
    Calls Try.prog 23 #[v, .string id, .string reason] w (ImgsOut w (relC ims id reason)) := by
  have hs := h
  obtain ⟨ao, cap, bi, off, rfl, hl, hm, ho⟩ := img_open h
  unfold maxLen at hm
  clear h
  have HS := Lib.hid hs; clear hs
  rcases idx_range (p := isId id) ims 0 with hx | ⟨hx0, hx1⟩
  case inl =>
    have HF := Lib.hid (show relC ims id reason = (ims, 10) by unfold relC; rw [if_pos (by omega)])
    have HX := Lib.hid hx; clear hx
    go_enter Try.func23, Try.ntmps23
    go_wp2_with (go_at_call 32; refine (find_any ims _ id _ HS.out).mono ?_; rintro e w3 ⟨rfl, hb3⟩; rw [HX.out])
    go_ret2
    exact ImgsOut.same HF.out HS.out hb3
  obtain ⟨k, hk⟩ : ∃ k : Nat, idxP (isId id) 0 ims = (k : Int) := ⟨(idxP (isId id) 0 ims).toNat, by omega⟩
  have hlt : k < ims.length := by omega
  clear hx0 hx1
  have HF := Lib.hid (show relC ims id reason = relAt ims k reason by unfold relC; rw [if_neg (by omega), hk]; rfl)
  have HX := Lib.hid hk; clear hk
  have HG := Lib.hid (show relAt ims k reason = if idxP (isStr reason) 0 ims[k].hold < 0 then (ims, 10) else (ims.set k { ims[k] with hold := ims[k].hold.eraseIdx (idxP (isStr reason) 0 ims[k].hold).toNat }, 0) by unfold relAt; rw [List.getElem?_eq_getElem hlt])
  have k0 : (0 : Int) ≤ (k : Int) := by omega
  have k1 : (k : Int) < (ims.length : Int) := by omega
  have hnn : ¬ (k : Int) < 0 := by omega
  have HO := Lib.hid ho; clear ho
  go_enter Try.func23, Try.ntmps23
  go_wp2_with (fail)
  refine (find_any ims _ id _ HS.out).mono ?_
  rintro e w3 ⟨rfl, b3⟩
  rw [HX.out]
  obtain ⟨rfl, -, hbi, hv, hok, c0, c1, c2, c3, c4⟩ := HO.out w3 (.of_below b3) k hlt
  obtain ⟨hva, hvc, _, _, rfl, -⟩ := hok.hold
  have hlw : ∀ j : Nat, j < w.heap.size → j < w3.heap.size := fun j hj => Nat.lt_of_lt_of_le hj b3.size
  have hsh : SlIs tStr (· < w3.heap.size) w3 (.slice hva ims[k].hold.length hvc) ims[k].hold := hok.hold.keep hlw (SameOn.refl _ _)
  rcases idx_range (p := isStr reason) ims[k].hold 0 with hx | ⟨hx0, hx1⟩
  · have HX2 := Lib.hid hx; clear hx
    go_wp2_with (go_at_call 39; refine (sIndex_any ims[k].hold _ reason _ hsh).mono ?_; rintro e w' ⟨rfl, rfl⟩; rw [HX2.out])
    go_ret2
    exact ImgsOut.same (HF.out.trans (HG.out.trans (if_pos (by rw [HX2.out]; decide)))) HS.out b3
  obtain ⟨j, hj⟩ : ∃ j : Nat, idxP (isStr reason) 0 ims[k].hold = (j : Int) := ⟨(idxP (isStr reason) 0 ims[k].hold).toNat, by omega⟩
  have hjl : j < ims[k].hold.length := by omega
  have hll := hholds _ (List.getElem_mem hlt)
  clear hx0 hx1
  have HG2 := Lib.hid (show relAt ims k reason = (ims.set k { ims[k] with hold := ims[k].hold.eraseIdx j }, 0) by rw [HG.out, if_neg (by omega), hj]; rfl)
  have HX2 := Lib.hid hj; clear hj
  have hjn : ¬ (j : Int) < 0 := by omega
  have hj0 : (0 : Int) ≤ (j : Int) := by omega
  go_wp2_with (first
    | (go_at_call 39; refine (sIndex_any ims[k].hold _ reason _ hsh).mono ?_; rintro e w' ⟨rfl, rfl⟩; rw [HX2.out])
    | (go_at_call 34; refine (cloneAll_any ims _ _ (HS.out.step b3) hbig hholds).mono ?_; rintro e w4 ⟨v4, rfl, ⟨F4, ho4, nd4, hF4⟩, hb4⟩
       obtain ⟨g, cap4, cs4, Fi, rfl, hc1, hc2, el, -, hst⟩ := ho4.upd nd4 k hlt
       obtain ⟨h4, rfl, hoh, i1⟩ := tImg_own el.own
       obtain ⟨gh, ch, rfl, hgh, hd1, hd2⟩ := hoh.formS (by omega)
       have d3 := el.cell 3 (by decide)
       simp only [imgCells, List.getElem?_cons_succ, List.getElem?_cons_zero, show tImg.sz = 5 from rfl] at d3
       have df := el.free
       have HA := Lib.hid hoh
       have HE := Lib.hid el
       have HST := Lib.hid hst
       have HI1 := Lib.hid i1
       have HL := Lib.hid ho4.lt
       have b4 := b3.trans (hb4.mono b3.size)
       have hg4 : g < w4.heap.size := lt_of_cell d3
       have HJL := Lib.hid hjl
       clear hoh el hst ho4 i1 hb4)
    | (go_at_call 40
       refine (del_any ims[k].hold gh ch j Fi _ HA.out HJL.out).mono ?_
       rintro e w5 ⟨v5, rfl, ho5, hob, hbb⟩
       obtain ⟨a5, c5, rfl, hd3, hd4⟩ := ho5.form
       have hne : g ≠ gh := fun q => HE.out.out (q ▸ hgh)
       have hgb : ∀ b ∈ F4, b ∉ Fi → w5.heap[b]? = w4.heap[b]? := fun b hb hbi => hob b (fun q => hbi (q ▸ hgh))
       have e3 : w5.cell? ⟨g, k * 5 + 3, none⟩ = some (.slice (some ⟨gh, 0, none⟩) ims[k].hold.length ch) := (World.cell?_of_block (w := w4) (hgb g HE.out.mem HE.out.out)).trans d3
       have ef : w5.frozen? ⟨g, k * 5 + 3, none⟩ = false := (World.frozen?_of_block (w := w4) (hgb g HE.out.mem HE.out.out)).trans (df _)
       have HGB := Lib.hid hgb
       have HO5 := Lib.hid ho5
       have b5 : Below w.heap.size w w5 := b4.trans (hbb w.heap.size (Nat.le_trans b3.size (hF4 _ (HE.out.sub _ hgh))))
       have hg5' : g < w5.heap.size := lt_of_cell e3
       clear hgb ho5 hob hbb))
  go_ret2
  obtain ⟨F6, o6, -, -⟩ := HST.out w5 Fi { ims[k] with hold := ims[k].hold.eraseIdx j } 3 _ HGB.out (by decide) (tImg_own_hold HO5.out HI1.out) HE.out.nodup (fun b hb => .inl hb)
  refine ImgsOut.new (HF.out.trans HG2.out) o6 ?_
  exact b5.setCell (Nat.le_trans b3.size (hF4 _ HE.out.mem)) _

set_option maxRecDepth 100000 in
set_option maxHeartbeats 2000000 in
theorem ReleaseR_any (ims : List Img) (v : Value) (id reason : ByteArray) (w : World) (h : SlIs tImg (· < w.heap.size) w v ims) (hbig : ims.length ≤ 1000000) (hholds : ∀ im ∈ ims, im.hold.length ≤ 1000000) :
    Calls Try.prog 24 #[v, .string id, .string reason] w (ImgsOut w (relC ims id reason)) := by
  have hs := h
  obtain ⟨ao, cap, bi, off, rfl, hl, hm, ho⟩ := img_open h
  unfold maxLen at hm
  clear h
  have HS := Lib.hid hs; clear hs
  rcases idx_range (p := isId id) ims 0 with hx | ⟨hx0, hx1⟩
  case inl =>
    have HF := Lib.hid (show relC ims id reason = (ims, 10) by unfold relC; rw [if_pos (by omega)])
    have HX := Lib.hid hx; clear hx
    go_enter Try.func24, Try.ntmps24
    go_wp2_with (go_at_call 36; refine (findR_any ims _ id _ HS.out).mono ?_; rintro e w3 ⟨rfl, rfl⟩; rw [HX.out])
    go_ret2
    exact ImgsOut.same HF.out HS.out (Below.refl _ _)
  obtain ⟨k, hk⟩ : ∃ k : Nat, idxP (isId id) 0 ims = (k : Int) := ⟨(idxP (isId id) 0 ims).toNat, by omega⟩
  have hlt : k < ims.length := by omega
  clear hx0 hx1
  have HF := Lib.hid (show relC ims id reason = relAt ims k reason by unfold relC; rw [if_neg (by omega), hk]; rfl)
  have HX := Lib.hid hk; clear hk
  have HG := Lib.hid (show relAt ims k reason = if idxP (isStr reason) 0 ims[k].hold < 0 then (ims, 10) else (ims.set k { ims[k] with hold := ims[k].hold.eraseIdx (idxP (isStr reason) 0 ims[k].hold).toNat }, 0) by unfold relAt; rw [List.getElem?_eq_getElem hlt])
  have k0 : (0 : Int) ≤ (k : Int) := by omega
  have k1 : (k : Int) < (ims.length : Int) := by omega
  have hnn : ¬ (k : Int) < 0 := by omega
  have hnd : decide ((k : Int) < 0) = false := by simp
  obtain ⟨rfl, -, hbi, hv, hok, c0, c1, c2, c3, c4⟩ := ho w (SameOn.refl _ _) k hlt
  clear ho
  obtain ⟨hva, hvc, bb, boff, rfl, hq1, hq2, hq3, hq4⟩ := hok.hold
  have hsh : SlIs tStr (· < w.heap.size) w (.slice hva ims[k].hold.length hvc) ims[k].hold := ⟨hva, hvc, bb, boff, rfl, hq1, hq2, hq3, hq4⟩
  have HSH := Lib.hid hsh
  rcases idx_range (p := isStr reason) ims[k].hold 0 with hx | ⟨hx0, hx1⟩
  · have HX2 := Lib.hid hx; clear hx hq3 hq4
    go_enter Try.func24, Try.ntmps24
    go_wp2_with (first
      | (go_at_call 36; refine (findR_any ims _ id _ HS.out).mono ?_; rintro e w3 ⟨rfl, rfl⟩; rw [HX.out])
      | (go_at_call 37; refine (has_any ims[k].hold _ reason _ HSH.out).mono ?_; rintro e w' ⟨rfl, rfl⟩; rw [HX2.out]))
    go_ret2
    exact ImgsOut.same (HF.out.trans (HG.out.trans (if_pos (by rw [HX2.out]; decide)))) HS.out (Below.refl _ _)
  obtain ⟨j, hj⟩ : ∃ j : Nat, idxP (isStr reason) 0 ims[k].hold = (j : Int) := ⟨(idxP (isStr reason) 0 ims[k].hold).toNat, by omega⟩
  have hjl : j < ims[k].hold.length := by omega
  have hll := hholds _ (List.getElem_mem hlt)
  clear hx0 hx1
  have HG2 := Lib.hid (show relAt ims k reason = (ims.set k { ims[k] with hold := ims[k].hold.eraseIdx j }, 0) by rw [HG.out, if_neg (by omega), hj]; rfl)
  have HX2 := Lib.hid hj; clear hj
  have hjn : ¬ (j : Int) < 0 := by omega
  have hj0 : (0 : Int) ≤ (j : Int) := by omega
  have hjd : decide ((j : Int) < 0) = false := by simp
  obtain ⟨rfl, -⟩ := hq4 j hjl
  obtain ⟨A, hA, hsrc⟩ : ∃ A : Addr, (if hvc = j + 1 then some (⟨bb, boff, none⟩ : Addr) else some ⟨bb, boff + (j + 1), none⟩) = some A ∧ Hid (SlIs tStr (· < w.heap.size) w (.slice (some A) (ims[k].hold.length - (j + 1)) (hvc - (j + 1))) (ims[k].hold.drop (j + 1))) := by
    have hd := SlIs.drop (t := j + 1) (k := j + 1) hsh (by omega) (by simp [tStr])
    by_cases q : hvc = j + 1
    · refine ⟨⟨bb, boff, none⟩, by simp [q], ?_⟩
      rw [if_pos q] at hd
      exact hd
    · refine ⟨⟨bb, boff + (j + 1), none⟩, by simp [q], ?_⟩
      rw [if_neg q] at hd
      simp only [Option.map_some, Addr.add_lit] at hd
      exact hd
  clear hq3 hq4 hsh
  have hwr : IntKind.i64.wrap ((j : Int) + 1) = (j : Int) + 1 := by rw [IntKind.wrap_i64]; omega
  have hp0 : (0 : Int) ≤ (j : Int) + 1 := by omega
  have hp1 : (j : Int) + 1 ≤ (ims[k].hold.length : Int) := by omega
  have hp2 : ((j : Int) + 1).toNat = j + 1 := by omega
  go_enter Try.func24, Try.ntmps24
  go_wp2_with (first
    | (go_at_call 36; refine (findR_any ims _ id _ HS.out).mono ?_; rintro e w3 ⟨rfl, rfl⟩; rw [HX.out])
    | (go_at_call 37; refine (has_any ims[k].hold _ reason w HSH.out).mono ?_; rintro e w' ⟨rfl, rfl⟩; rw [HX2.out])
    | (go_at_call 38; refine (all_any ims _ _ HS.out hbig hholds).mono ?_; rintro e w4 ⟨v4, rfl, ⟨F4, ho4, nd4, hF4⟩, b4⟩
       obtain ⟨g, cap4, cs4, Fi, rfl, hc1, hc2, el, -, hst⟩ := ho4.upd nd4 k hlt
       obtain ⟨h4, rfl, hoh, i1⟩ := tImg_own el.own
       obtain ⟨gh, ch, rfl, hgh, hd1, hd2⟩ := hoh.formS (by omega)
       have d3 := el.cell 3 (by decide)
       simp only [imgCells, List.getElem?_cons_succ, List.getElem?_cons_zero, show tImg.sz = 5 from rfl] at d3
       have df := el.free
       have HA := Lib.hid hoh
       have HE := Lib.hid el
       have HST := Lib.hid hst
       have HI1 := Lib.hid i1
       have HL := Lib.hid ho4.lt
       have hg4 : g < w4.heap.size := lt_of_cell d3
       have HJL := Lib.hid hjl
       have hsh4 := Lib.hid (HSH.out.step b4)
       have e0 : w4.cell? ⟨bi, off + k * 5 + 3, none⟩ = some (.slice (some ⟨bb, boff, none⟩) ims[k].hold.length hvc) := (b4.cell (p := ⟨bi, off + k * 5 + 3, none⟩) hbi).trans c3
       have hbi4 : bi < w4.heap.size := Nat.lt_of_lt_of_le hbi b4.size
       clear hoh el hst ho4 i1 c0 c1 c2 c3 c4)
    | (go_at_call 37; refine (has_any ims[k].hold _ reason w4 hsh4.out).mono ?_; rintro e w' ⟨rfl, rfl⟩; rw [HX2.out]))
  have hBg : w.heap.size ≤ gh := hF4 _ (HE.out.sub _ hgh)
  have hne : g ≠ gh := fun q => HE.out.out (q ▸ hgh)
  have ow4 : OwnSl tStr 9 w.heap.size w4.drew (.slice (some ⟨gh, 0, none⟩) j ch) (ims[k].hold.take j) := ((HA.out.to HE.out.nodup (fun b hb => hF4 _ (HE.out.sub _ hb))).drew).take (by omega)
  have OW := Lib.hid ow4; clear ow4
  have SR : Hid (SlIs tStr (· < w.heap.size) w4.drew (.slice (some A) (ims[k].hold.drop (j + 1)).length (hvc - (j + 1))) (ims[k].hold.drop (j + 1))) := Lib.hid (by
    rw [List.length_drop]
    exact hsrc.out.keep (fun _ h => h) (.of_below (b4.drew)))
  have HT := Lib.hid (show (ims[k].hold.take j).length = j by simp; omega)
  have HDL := Lib.hid (show (ims[k].hold.drop (j + 1)).length = ims[k].hold.length - (j + 1) by simp)
  have hjc : j ≤ ch := by omega
  have hjc2 : j + 1 ≤ hvc := by omega
  have HB4 := Lib.hid b4
  clear b4
  go_region_law (
    (refine step_append_sl (.tmp 44) (.tmp 52) rfl 23 rfl slStr (by simp [Act.eval, Act.put]) OW.out (by simp [Act.eval, Act.put]) SR.out (fun b hb => ⟨Nat.lt_of_lt_of_le hb (HB4.out.drew).size, fun q => by simp [Value.ownBlock] at q; omega⟩) (by rw [HT.out, HDL.out]; omega) (by rw [HT.out, HDL.out]; unfold maxLen; omega) (HB4.out.drew).size ?_
     intro v5 w5 ho5 hg5 hv5
     obtain ⟨a5, n5, c5, rfl⟩ : ∃ a n c, v5 = .slice a n c := by
       obtain ⟨a, c, q, _⟩ := ho5.form
       exact ⟨a, _, c, q⟩
     have hgb : ∀ b ∈ F4, b ∉ Fi → w5.heap[b]? = w4.heap[b]? := fun b hb hbi => hg5.block b (HL.out b hb) (fun q => hbi (by simp [Value.ownBlock] at q; exact q ▸ hgh))
     have e3 : w5.cell? ⟨g, k * 5 + 3, none⟩ = some (.slice (some ⟨gh, 0, none⟩) ims[k].hold.length ch) := (World.cell?_of_block (w := w4) (hgb g HE.out.mem HE.out.out)).trans d3
     have ef : w5.frozen? ⟨g, k * 5 + 3, none⟩ = false := (World.frozen?_of_block (w := w4) (hgb g HE.out.mem HE.out.out)).trans (df _)
     have HGB := Lib.hid hgb
     have HO5 := Lib.hid ho5
     have HV5 := Lib.hid hv5
     have b5 := Lib.hid ((HB4.out.drew).trans (Below.of_grown hg5 (HB4.out.drew).size (fun q hq => by simp [Value.ownBlock] at hq; omega)))
     have hg5' : g < w5.heap.size := lt_of_cell e3
     clear hgb ho5 hg5 hv5))
  all_goals
    go_wp2
    go_ret2
    have hF5 := OwnL.ofOwn ownStr HO5.out
    obtain ⟨F6, o6, -, -⟩ := HST.out w5 _ { ims[k] with hold := ims[k].hold.take j ++ ims[k].hold.drop (j + 1) } 3 _ HGB.out (by decide) (tImg_own_hold hF5.1 HI1.out) hF5.2.1 (fun b hb => by
      rcases HV5.out with q | q
      · rw [q] at hb
        simp [Value.ownBlock] at hb
        exact .inl (hb ▸ hgh)
      · rw [q] at hb
        simp at hb
        exact .inr fun hq => by have := HL.out b hq; omega)
    refine ImgsOut.new (HF.out.trans (HG2.out.trans ?_)) o6 ?_
    · rw [List.eraseIdx_eq_take_drop_succ]
    · exact b5.out.setCell (hF4 _ HE.out.mem) _
end Go.Proofs.Ytcociikmhfopnaa
