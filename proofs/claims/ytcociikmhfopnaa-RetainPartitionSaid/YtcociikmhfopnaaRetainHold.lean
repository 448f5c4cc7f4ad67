/-
  Layer 40 (retain): the walk of Hold.
-/
import Derived.Test.YtcociikmhfopnaaRetainAll
import Derived.Test.YtcociikmhfopnaaRetainIsName
namespace Go.Proofs.Ytcociikmhfopnaa
open Go.RowKit Go.Tw Go.Tw.Retain

/-- images, and an error -/
def ImgsOut (W : World) (r : List Img × Int) (e : Ending) (w : World) : Prop :=
  ∃ v', e = .returned (.tuple #[v', .int .i64 r.2]) ∧ SlIs tImg (· < w.heap.size) w v' r.1 ∧ Below W.heap.size W w
theorem ImgsOut.same {W w : World} {r : List Img × Int} {ims : List Img} {v : Value} {c : Int} (h : r = (ims, c)) (hs : SlIs tImg (· < W.heap.size) W v ims) (hb : Below W.heap.size W w) : ImgsOut W r (.returned (.tuple #[v, .int .i64 c])) w := by
  subst h
  exact ⟨_, rfl, hs.step hb, hb⟩
theorem ImgsOut.new {W w : World} {r : List Img × Int} {ims : List Img} {v : Value} {F : List Nat} (h : r = (ims, 0)) (hs : OwnL tImg 26 F w v ims) (hb : Below W.heap.size W w) : ImgsOut W r (.returned (.tuple #[v, .int .i64 0])) w := by
  subst h
  exact ⟨_, rfl, hs.sl.keep (fun b hb' => hs.lt b hb') (SameOn.refl _ _), hb⟩

theorem tImg_own_hold {F : List Nat} {w : World} {im : Img} {h h' : Value} {l : List ByteArray} (ho : OwnL tStr 9 F w h' l) (hi : im.id.size ≤ maxLen ∧ i64ok im.t ∧ i64ok im.p ∧ 0 ≤ im.dg ∧ im.dg ≤ 18446744073709551615) :
    tImg.own F w ((imgCells im h).set 3 h') { im with hold := l } := tImg_own_mk (r := { im with hold := l }) ho hi.1 hi.2.1 hi.2.2.1 hi.2.2.2
theorem findR_b (ims : List Img) (v : Value) (id : ByteArray) (w : World) (h : SlIs tImg (· < w.heap.size) w v ims) :
    Calls Try.prog 36 #[v, .string id] w fun e w' => e = .returned (.int .i64 (idxP (isId id) 0 ims)) ∧ Below w.heap.size w w' := (findR_any ims v id w h).mono fun _ _ ⟨h1, h2⟩ => ⟨h1, h2 ▸ Below.refl _ _⟩
set_option maxRecDepth 100000 in
set_option maxHeartbeats 2000000 in
theorem Hold_any (ims : List Img) (v : Value) (id reason : ByteArray) (w : World) (h : SlIs tImg (· < w.heap.size) w v ims) (hbig : ims.length ≤ 1000000) (hholds : ∀ im ∈ ims, im.hold.length ≤ 1000000) (hr : reason.size ≤ maxLen) :
    Calls Try.prog 21 #[v, .string id, .string reason] w (ImgsOut w (holdC (nameC reason) ims id reason)) := by
  have hs := h
  obtain ⟨ao, cap, bi, off, rfl, hl, hm, ho⟩ := img_open h
  unfold maxLen at hm
  clear h
  have HS := Lib.hid hs; clear hs
  rcases Bool.eq_false_or_eq_true (nameC reason) with hn | hn
  case inr =>
    have HF := Lib.hid (show holdC (nameC reason) ims id reason = (ims, 6) by unfold holdC; rw [if_pos hn])
    have HN := Lib.hid hn; clear hn
    go_enter Try.func21, Try.ntmps21
    go_wp2_with (go_at_call 31; refine (Name_any reason _).mono ?_; rintro e w2 ⟨rfl, hb2⟩; rw [HN.out])
    go_ret2
    exact ImgsOut.same HF.out HS.out ‹_›
  have HN := Lib.hid hn; clear hn
  rcases idx_range (p := isId id) ims 0 with hx | ⟨hx0, hx1⟩
  case inl =>
    have HF := Lib.hid (show holdC (nameC reason) ims id reason = (ims, 10) by unfold holdC; rw [if_neg (by simp [HN.out]), if_pos (by omega)])
    have HX := Lib.hid hx; clear hx
    go_enter Try.func21, Try.ntmps21
    go_wp2_with (first
      | (go_at_call 31; refine (Name_any reason _).mono ?_; rintro e w2 ⟨rfl, hb2⟩; rw [HN.out])
      | (go_at_call 32; refine (find_any ims _ id _ (HS.out.step hb2)).mono ?_; rintro e w3 ⟨rfl, hb3⟩; rw [HX.out]))
    go_ret2
    exact ImgsOut.same HF.out HS.out (bl_trans hb2 hb3)
  obtain ⟨k, hk⟩ : ∃ k : Nat, idxP (isId id) 0 ims = (k : Int) := ⟨(idxP (isId id) 0 ims).toNat, by omega⟩
  have hlt : k < ims.length := by omega
  clear hx0 hx1
  have HF := Lib.hid (show holdC (nameC reason) ims id reason = holdAt ims k reason by unfold holdC; rw [if_neg (by simp [HN.out]), if_neg (by omega), hk]; rfl)
  have HX := Lib.hid hk; clear hk
  have HG := Lib.hid (show holdAt ims k reason = if 0 ≤ idxP (isStr reason) 0 ims[k].hold then (ims, 9) else if 16 ≤ ims[k].hold.length then (ims, 3) else (ims.set k { ims[k] with hold := ims[k].hold ++ [reason] }, 0) by unfold holdAt; rw [List.getElem?_eq_getElem hlt])
  have k0 : (0 : Int) ≤ (k : Int) := by omega
  have k1 : (k : Int) < (ims.length : Int) := by omega
  have hnn : ¬ (k : Int) < 0 := by omega
  have HO := Lib.hid ho; clear ho
  go_enter Try.func21, Try.ntmps21
  go_wp2_with (fail)
  refine (Name_any reason _).mono ?_
  rintro e w2 ⟨rfl, hb2⟩
  rw [HN.out]
  go_wp2_with (fail)
  refine (find_any ims _ id _ (HS.out.step hb2)).mono ?_
  rintro e w3 ⟨rfl, hb3⟩
  rw [HX.out]
  have b3 : Below w.heap.size w w3 := bl_trans hb2 hb3
  obtain ⟨rfl, -, hbi, hv, hok, c0, c1, c2, c3, c4⟩ := HO.out w3 (.of_below b3) k hlt
  obtain ⟨hva, hvc, _, _, rfl, -⟩ := hok.hold
  have hlw : ∀ j : Nat, j < w.heap.size → j < w3.heap.size := fun j hj => Nat.lt_of_lt_of_le hj b3.size
  have hsh : SlIs tStr (· < w3.heap.size) w3 (.slice hva ims[k].hold.length hvc) ims[k].hold := hok.hold.keep hlw (SameOn.refl _ _)
  by_cases hin : 0 ≤ idxP (isStr reason) 0 ims[k].hold
  · have HI := Lib.hid hin
    have hd : decide (0 ≤ idxP (isStr reason) 0 ims[k].hold) = true := by simpa using hin
    have HD := Lib.hid hd; clear hd hin
    go_wp2_with (go_at_call 33; refine (sContains_any ims[k].hold _ reason _ hsh).mono ?_; rintro e w' ⟨rfl, rfl⟩; rw [HD.out])
    go_ret2
    exact ImgsOut.same (HF.out.trans (HG.out.trans (if_pos HI.out))) HS.out b3
  have HI := Lib.hid hin
  have hd : decide (0 ≤ idxP (isStr reason) 0 ims[k].hold) = false := by simpa using hin
  have HD := Lib.hid hd; clear hd hin
  by_cases h16 : 16 ≤ ims[k].hold.length
  · have h16' : ((16 : Int)) ≤ (ims[k].hold.length : Int) := by omega
    have HJ := Lib.hid h16; clear h16
    go_wp2_with (go_at_call 33; refine (sContains_any ims[k].hold _ reason _ hsh).mono ?_; rintro e w' ⟨rfl, rfl⟩; rw [HD.out])
    go_ret2
    exact ImgsOut.same (HF.out.trans (HG.out.trans ((if_neg (by have := HI.out; omega)).trans (if_pos HJ.out)))) HS.out b3
  have h16' : ¬ ((16 : Int)) ≤ (ims[k].hold.length : Int) := by omega
  have HJ := Lib.hid h16; clear h16
  go_wp2_with (first
    | (go_at_call 33; refine (sContains_any ims[k].hold _ reason _ hsh).mono ?_; rintro e w' ⟨rfl, rfl⟩; rw [HD.out])
    | (go_at_call 34; refine (cloneAll_any ims _ _ (HS.out.step b3) hbig hholds).mono ?_; rintro e w4 ⟨v4, rfl, ⟨F4, ho4, nd4, hF4⟩, hb4⟩
       obtain ⟨g, cap4, cs4, Fi, rfl, hc1, hc2, el, -, hst⟩ := ho4.upd nd4 k hlt
       obtain ⟨h4, rfl, hoh, i1⟩ := tImg_own el.own
       obtain ⟨ah, ch, rfl, hd1, hd2⟩ := hoh.form
       have d3 := el.cell 3 (by decide)
       simp only [imgCells, List.getElem?_cons_succ, List.getElem?_cons_zero, show tImg.sz = 5 from rfl] at d3
       have df := el.free
       have HA := Lib.hid hoh
       have HE := Lib.hid el
       have HST := Lib.hid hst
       have HI1 := Lib.hid i1
       have HL := Lib.hid ho4.lt
       have b4 := b3.trans (hb4.mono b3.size)
       have hnl : ims[k].hold.length < 16 := by omega
       have HNL := Lib.hid hnl
       have hg4 : g < w4.heap.size := lt_of_cell d3
       clear hoh el hst ho4 i1 hb4 hnl)
    | (at_builtin
       refine wpList_append_L (.tmp 47) (.tmp 49) rfl 23 rfl slStr rfl HA.out HE.out.nodup rfl (x := reason) (F1 := []) ⟨rfl, rfl, hr⟩ List.nodup_nil (fun _ h => absurd h List.not_mem_nil) (by have := HNL.out; omega) (by have := HNL.out; unfold maxLen; omega) ?_
       intro v5 w5 F5 ho5 nd5 hF5 hg5
       obtain ⟨a5, c5, rfl, hd3, hd4⟩ : ∃ a c, v5 = .slice a (ims[k].hold.length + 1) c ∧ ims[k].hold.length + 1 ≤ c ∧ c ≤ maxLen := by simpa using ho5.form
       have hgb : ∀ b ∈ F4, b ∉ Fi → w5.heap[b]? = w4.heap[b]? := fun b hb hbi => (hg5.block b (by have := HL.out b hb; simp; omega) (fun q => hbi (HA.out.blk b q.symm))).trans (Below.heap_alloc _ _ _ (HL.out b hb))
       have e3 : w5.cell? ⟨g, k * 5 + 3, none⟩ = some (.slice ah ims[k].hold.length ch) := (World.cell?_of_block (w := w4) (hgb g HE.out.mem HE.out.out)).trans d3
       have ef : w5.frozen? ⟨g, k * 5 + 3, none⟩ = false := (World.frozen?_of_block (w := w4) (hgb g HE.out.mem HE.out.out)).trans (df _)
       have HGB := Lib.hid hgb
       have HO5 := Lib.hid ho5
       have HF5 := Lib.hid hF5
       have hob : ∀ j, Value.ownBlock (.slice ah ims[k].hold.length ch) = some j → w.heap.size ≤ j := fun j hj => Nat.le_trans b3.size (hF4 j (HE.out.sub j (HA.out.blk j hj)))
       have b5 : Below w.heap.size w w5 := (b4.alloc b4.size _).trans (Below.of_grown hg5 (by have := b4.size; simp; omega) hob)
       have hg5' : g < w5.heap.size := lt_of_cell e3
       clear hg5 hgb ho5 hF5 hob))
  go_ret2
  obtain ⟨F6, o6, -, -⟩ := HST.out w5 F5 { ims[k] with hold := ims[k].hold ++ [reason] } 3 (.slice a5 (ims[k].hold.length + 1) c5) HGB.out (by decide) (tImg_own_hold HO5.out HI1.out) nd5 (fun b hb => by
    rcases HF5.out b hb with q | q | q
    · exact .inl q
    · cases q
    · exact .inr fun hq => by have := HL.out b hq; omega)
  refine ImgsOut.new (HF.out.trans (HG.out.trans ((if_neg (by have := HI.out; omega)).trans (if_neg (by have := HJ.out; omega))))) o6 ?_
  exact b5.setCell (Nat.le_trans b3.size (hF4 _ HE.out.mem)) _
set_option maxRecDepth 100000 in
set_option maxHeartbeats 2000000 in
theorem HoldR_any (ims : List Img) (v : Value) (id reason : ByteArray) (w : World) (h : SlIs tImg (· < w.heap.size) w v ims) (hbig : ims.length ≤ 1000000) (hholds : ∀ im ∈ ims, im.hold.length ≤ 1000000) (hr : reason.size ≤ maxLen) :
    Calls Try.prog 22 #[v, .string id, .string reason] w (ImgsOut w (holdC (nameC reason) ims id reason)) := by
  have hs := h
  obtain ⟨ao, cap, bi, off, rfl, hl, hm, ho⟩ := img_open h
  unfold maxLen at hm
  clear h
  have HS := Lib.hid hs; clear hs
  rcases Bool.eq_false_or_eq_true (nameC reason) with hn | hn
  case inr =>
    have HF := Lib.hid (show holdC (nameC reason) ims id reason = (ims, 6) by unfold holdC; rw [if_pos hn])
    have HN := Lib.hid hn; clear hn
    go_enter Try.func22, Try.ntmps22
    go_wp2_with (go_at_call 35; refine (IsName_any reason _).mono ?_; rintro e w2 ⟨rfl, hb2⟩; rw [HN.out])
    go_ret2
    exact ImgsOut.same HF.out HS.out ‹_›
  have HN := Lib.hid hn; clear hn
  rcases idx_range (p := isId id) ims 0 with hx | ⟨hx0, hx1⟩
  case inl =>
    have HF := Lib.hid (show holdC (nameC reason) ims id reason = (ims, 10) by unfold holdC; rw [if_neg (by simp [HN.out]), if_pos (by omega)])
    have HX := Lib.hid hx; clear hx
    go_enter Try.func22, Try.ntmps22
    go_wp2_with (first
      | (go_at_call 35; refine (IsName_any reason _).mono ?_; rintro e w2 ⟨rfl, hb2⟩; rw [HN.out])
      | (go_at_call 36; refine (findR_b ims _ id _ (HS.out.step hb2)).mono ?_; rintro e w3 ⟨rfl, hb3⟩; rw [HX.out]))
    go_ret2
    exact ImgsOut.same HF.out HS.out (bl_trans hb2 hb3)
  obtain ⟨k, hk⟩ : ∃ k : Nat, idxP (isId id) 0 ims = (k : Int) := ⟨(idxP (isId id) 0 ims).toNat, by omega⟩
  have hlt : k < ims.length := by omega
  clear hx0 hx1
  have HF := Lib.hid (show holdC (nameC reason) ims id reason = holdAt ims k reason by unfold holdC; rw [if_neg (by simp [HN.out]), if_neg (by omega), hk]; rfl)
  have HX := Lib.hid hk; clear hk
  have HG := Lib.hid (show holdAt ims k reason = if 0 ≤ idxP (isStr reason) 0 ims[k].hold then (ims, 9) else if 16 ≤ ims[k].hold.length then (ims, 3) else (ims.set k { ims[k] with hold := ims[k].hold ++ [reason] }, 0) by unfold holdAt; rw [List.getElem?_eq_getElem hlt])
  have k0 : (0 : Int) ≤ (k : Int) := by omega
  have k1 : (k : Int) < (ims.length : Int) := by omega
  have hnn : ¬ (k : Int) < 0 := by omega
  have HO := Lib.hid ho; clear ho
  go_enter Try.func22, Try.ntmps22
  go_wp2_with (fail)
  refine (IsName_any reason _).mono ?_
  rintro e w2 ⟨rfl, hb2⟩
  rw [HN.out]
  go_wp2_with (fail)
  refine (findR_b ims _ id _ (HS.out.step hb2)).mono ?_
  rintro e w3 ⟨rfl, hb3⟩
  rw [HX.out]
  have b3 : Below w.heap.size w w3 := bl_trans hb2 hb3
  obtain ⟨rfl, -, hbi, hv, hok, c0, c1, c2, c3, c4⟩ := HO.out w3 (.of_below b3) k hlt
  obtain ⟨hva, hvc, _, _, rfl, -⟩ := hok.hold
  have hlw : ∀ j : Nat, j < w.heap.size → j < w3.heap.size := fun j hj => Nat.lt_of_lt_of_le hj b3.size
  have hsh : SlIs tStr (· < w3.heap.size) w3 (.slice hva ims[k].hold.length hvc) ims[k].hold := hok.hold.keep hlw (SameOn.refl _ _)
  by_cases hin : 0 ≤ idxP (isStr reason) 0 ims[k].hold
  · have HI := Lib.hid hin
    have hd : decide (0 ≤ idxP (isStr reason) 0 ims[k].hold) = true := by simpa using hin
    have HD := Lib.hid hd; clear hd 
    go_wp2_with (go_at_call 37; refine (has_any ims[k].hold _ reason _ hsh).mono ?_; rintro e w' ⟨rfl, rfl⟩)
    go_ret2
    exact ImgsOut.same (HF.out.trans (HG.out.trans (if_pos HI.out))) HS.out b3
  have HI := Lib.hid hin
  have hd : decide (0 ≤ idxP (isStr reason) 0 ims[k].hold) = false := by simpa using hin
  have HD := Lib.hid hd; clear hd 
  by_cases h16 : 16 ≤ ims[k].hold.length
  · have h16' : ((16 : Int)) ≤ (ims[k].hold.length : Int) := by omega
    have HJ := Lib.hid h16; clear h16
    go_wp2_with (go_at_call 37; refine (has_any ims[k].hold _ reason _ hsh).mono ?_; rintro e w' ⟨rfl, rfl⟩)
    go_ret2
    exact ImgsOut.same (HF.out.trans (HG.out.trans ((if_neg (by have := HI.out; omega)).trans (if_pos HJ.out)))) HS.out b3
  have h16' : ¬ ((16 : Int)) ≤ (ims[k].hold.length : Int) := by omega
  have HJ := Lib.hid h16; clear h16
  go_wp2_with (first
    | (go_at_call 37; refine (has_any ims[k].hold _ reason _ hsh).mono ?_; rintro e w' ⟨rfl, rfl⟩)
    | (go_at_call 38; refine (all_any ims _ _ (HS.out.step b3) hbig hholds).mono ?_; rintro e w4 ⟨v4, rfl, ⟨F4, ho4, nd4, hF4⟩, hb4⟩
       obtain ⟨g, cap4, cs4, Fi, rfl, hc1, hc2, el, -, hst⟩ := ho4.upd nd4 k hlt
       obtain ⟨h4, rfl, hoh, i1⟩ := tImg_own el.own
       obtain ⟨ah, ch, rfl, hd1, hd2⟩ := hoh.form
       have d3 := el.cell 3 (by decide)
       simp only [imgCells, List.getElem?_cons_succ, List.getElem?_cons_zero, show tImg.sz = 5 from rfl] at d3
       have df := el.free
       have HA := Lib.hid hoh
       have HE := Lib.hid el
       have HST := Lib.hid hst
       have HI1 := Lib.hid i1
       have HL := Lib.hid ho4.lt
       have b4 := b3.trans (hb4.mono b3.size)
       have hnl : ims[k].hold.length < 16 := by omega
       have HNL := Lib.hid hnl
       have hg4 : g < w4.heap.size := lt_of_cell d3
       clear hoh el hst ho4 i1 hb4 hnl)
    | (at_builtin
       refine wpList_append_L (.tmp 45) (.tmp 47) rfl 23 rfl slStr rfl HA.out HE.out.nodup rfl (x := reason) (F1 := []) ⟨rfl, rfl, hr⟩ List.nodup_nil (fun _ h => absurd h List.not_mem_nil) (by have := HNL.out; omega) (by have := HNL.out; unfold maxLen; omega) ?_
       intro v5 w5 F5 ho5 nd5 hF5 hg5
       obtain ⟨a5, c5, rfl, hd3, hd4⟩ : ∃ a c, v5 = .slice a (ims[k].hold.length + 1) c ∧ ims[k].hold.length + 1 ≤ c ∧ c ≤ maxLen := by simpa using ho5.form
       have hgb : ∀ b ∈ F4, b ∉ Fi → w5.heap[b]? = w4.heap[b]? := fun b hb hbi => (hg5.block b (by have := HL.out b hb; simp; omega) (fun q => hbi (HA.out.blk b q.symm))).trans (Below.heap_alloc _ _ _ (HL.out b hb))
       have e3 : w5.cell? ⟨g, k * 5 + 3, none⟩ = some (.slice ah ims[k].hold.length ch) := (World.cell?_of_block (w := w4) (hgb g HE.out.mem HE.out.out)).trans d3
       have ef : w5.frozen? ⟨g, k * 5 + 3, none⟩ = false := (World.frozen?_of_block (w := w4) (hgb g HE.out.mem HE.out.out)).trans (df _)
       have HGB := Lib.hid hgb
       have HO5 := Lib.hid ho5
       have HF5 := Lib.hid hF5
       have hob : ∀ j, Value.ownBlock (.slice ah ims[k].hold.length ch) = some j → w.heap.size ≤ j := fun j hj => Nat.le_trans b3.size (hF4 j (HE.out.sub j (HA.out.blk j hj)))
       have b5 : Below w.heap.size w w5 := (b4.alloc b4.size _).trans (Below.of_grown hg5 (by have := b4.size; simp; omega) hob)
       have hg5' : g < w5.heap.size := lt_of_cell e3
       clear hg5 hgb ho5 hF5 hob))
  go_ret2
  obtain ⟨F6, o6, -, -⟩ := HST.out w5 F5 { ims[k] with hold := ims[k].hold ++ [reason] } 3 (.slice a5 (ims[k].hold.length + 1) c5) HGB.out (by decide) (tImg_own_hold HO5.out HI1.out) nd5 (fun b hb => by
    rcases HF5.out b hb with q | q | q
    · exact .inl q
    · cases q
    · exact .inr fun hq => by have := HL.out b hq; omega)
  refine ImgsOut.new (HF.out.trans (HG.out.trans ((if_neg (by have := HI.out; omega)).trans (if_neg (by have := HJ.out; omega))))) o6 ?_
  exact b5.setCell (Nat.le_trans b3.size (hF4 _ HE.out.mem)) _
end Go.Proofs.Ytcociikmhfopnaa
