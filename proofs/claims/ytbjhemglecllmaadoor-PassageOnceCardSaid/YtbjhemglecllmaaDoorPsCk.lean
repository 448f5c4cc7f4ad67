/-
  Layer 17 (passage): Check.
-/
import Derived.Test.YtbjhemglecllmaaDoorMgG
import Derived.Test.YtbjhemglecllmaaDoorMgG
namespace Go.Tw.Ps
open Go.RowKit Go.Tw Go.Sort Go.Tw.Ord
open Classical in
/-- the error of source s at place k -/
noncomputable def srcP (l : List Src) (k : Nat) (s : Src) : Int :=
  if nameC s.dev = false then 6 else if s.seq < 0 ∨ 2147483648 < s.seq then 2 else if ∃ m y, m + 1 = k ∧ l[m]? = some y ∧ 0 ≤ srcC y s then 15 else 0
noncomputable def srcAt (l : List Src) (k : Nat) : Int := match l[k]? with
  | none => 0
  | some s => srcP l k s
noncomputable def srcsM (l : List Src) : List Int := (List.range l.length).map (srcAt l)
noncomputable def srcsE (l : List Src) : Int := orL (srcsM l)
theorem srcAt_get {l : List Src} {k : Nat} (h : k < l.length) : srcAt l k = srcP l k l[k] := by
  unfold srcAt
  rw [List.getElem?_eq_getElem h]
theorem srcs_next {l : List Src} {k : Nat} (h : k < l.length) : orL ((srcsM l).drop k) = if srcP l k l[k] = 0 then orL ((srcsM l).drop (k + 1)) else srcP l k l[k] := by
  have hl : k < ((List.range l.length).map (srcAt l)).length := by simpa using h
  show orL (((List.range l.length).map (srcAt l)).drop k) = if srcP l k l[k] = 0 then orL (((List.range l.length).map (srcAt l)).drop (k + 1)) else srcP l k l[k]
  rw [List.drop_eq_getElem_cons hl, orL, List.getElem_map, List.getElem_range, srcAt_get h]
theorem srcs_end {l : List Src} {k : Nat} (h : l.length ≤ k) : orL ((srcsM l).drop k) = 0 := by
  rw [List.drop_eq_nil_of_le (by unfold srcsM; simpa using h)]
  rfl
theorem srcP_name {l : List Src} {k : Nat} {s : Src} (h1 : nameC s.dev = false) : srcP l k s = 6 := by unfold srcP; rw [if_pos h1]
theorem srcP_seq {l : List Src} {k : Nat} {s : Src} (h1 : nameC s.dev = true) (h2 : s.seq < 0 ∨ 2147483648 < s.seq) : srcP l k s = 2 := by
  unfold srcP; rw [if_neg (by rw [h1]; decide), if_pos h2]
theorem srcP_zero {l : List Src} {s : Src} (h1 : nameC s.dev = true) (h2 : ¬ (s.seq < 0 ∨ 2147483648 < s.seq)) : srcP l 0 s = 0 := by
  unfold srcP
  rw [if_neg (by rw [h1]; decide), if_neg h2, if_neg]
  rintro ⟨m, _, e, -⟩
  omega
theorem srcP_succ {l : List Src} {k m : Nat} {y s : Src} (hm : m + 1 = k) (hy : l[m]? = some y) (h1 : nameC s.dev = true) (h2 : ¬ (s.seq < 0 ∨ 2147483648 < s.seq)) : srcP l k s = if 0 ≤ srcC y s then 15 else 0 := by
  unfold srcP
  rw [if_neg (by rw [h1]; decide), if_neg h2]
  by_cases q : 0 ≤ srcC y s
  · rw [if_pos q, if_pos ⟨m, y, hm, hy, q⟩]
  · rw [if_neg q, if_neg]
    rintro ⟨m', y', e, hy', q'⟩
    obtain rfl : m' = m := by omega
    rw [hy] at hy'
    injection hy' with e2
    subst e2
    exact q q'
/-- the error of a passage -/
noncomputable def checkC (x : Pas) (l : List Pnt) : Int :=
  if fndB l x.pt = false then 16 else if x.tm < 0 ∨ 68719476736 ≤ x.tm then 12 else if identC x ≠ 0 then identC x
  else if x.cls < 0 ∨ 9 < x.cls then 20 else if x.sco < 0 ∨ 1000 < x.sco then 1 else if x.src.length = 0 ∨ 24 < x.src.length then 3
  else if srcsE x.src ≠ 0 then srcsE x.src else if x.id = idC x then 0 else 6
end Go.Tw.Ps
namespace Go.Proofs.YtbjhemglecllmaaDoor
open Go.RowKit Go.Tw Go.Tw.Ord Go.Tw.Ps Go.Sort
set_option maxRecDepth 100000 in
set_option maxHeartbeats 4000000 in
theorem check_any (x : Pas) (vx : Value) (l : List Pnt) (vl : Value) (w : World) (h : SlIs tSrc (· < w.heap.size) w vx x.src) (_hx : PasOk x) (hpl : x.plt.size ≤ 1000000) (hd : ∀ s ∈ x.src, s.dev.size ≤ 1000) (hf : ∀ s ∈ x.src, FmtOk s.seq w)
    (hn : SlIs tPnt (· < w.heap.size) w vl l) (hl : l.length ≤ 1000) :
    Calls Tryd.prog 13 #[.agg (pCells x vx).toArray, .agg #[vl, .slice none 0 0]] w fun e w' => e = .returned (.int .i64 (checkC x l)) ∧ Below w.heap.size w w' := by
  obtain ⟨B, hB⟩ : ∃ B, (pCells x vx).toArray = B := ⟨_, rfl⟩
  have n0 : PBox ((w.alloc (.cells B 24)).alloc (.cells #[vl, .slice none 0 0] 32)) w.heap.size B := alloc2_0 w _ _
  have n1 := alloc2_1 w (.cells B 24) (.cells #[vl, .slice none 0 0] 32)
  have hb0 := bl_alloc (bl_alloc (Below.refl w.heap.size w) (.cells B 24)) (.cells #[vl, .slice none 0 0] 32)
  have HB := Lib.hid hB
  have H := Lib.hid h
  have HNT := Lib.hid hn
  rw [hB]
  clear hB h hn
  go_enter Tryd.func13, Tryd.ntmps13
  go_upto_region 1 with (fail)
  obtain ⟨w0, hw0⟩ : ∃ w0, (w.alloc (.cells B 24)).alloc (.cells #[vl, .slice none 0 0] 32) = w0 := ⟨_, rfl⟩
  rw [hw0] at n0 n1 hb0 ⊢
  clear hw0
  have HB0 := Lib.hid hb0
  obtain ⟨gb, hgb⟩ : ∃ gb, w.heap.size = gb := ⟨_, rfl⟩
  have HFD := Lib.hid (graphFind_any l vl x.pt w0 (HNT.out.step hb0) hl)
  rw [hgb] at n0 n1 ⊢
  have HNB := Lib.hid n0
  obtain ⟨a0, a1, -⟩ := blk2 n1
  have b1 := n0.cell 1 (v := .string x.pt) (by rw [← HB.out]; rfl)
  obtain ⟨fd, hfd⟩ : ∃ fd, fndB l x.pt = fd := ⟨_, rfl⟩
  rw [hfd] at HFD
  have HFDE := Lib.hid hfd
  clear n0 n1 hfd hb0
  cases fd with
  | false =>
    have HE := Lib.hid (show checkC x l = 16 from by unfold checkC; rw [if_pos HFDE.out])
    go_wp2_with (go_at_call 34
                 with_reducible refine HFD.out.mono ?_
                 rintro e w1 ⟨⟨fa, fb, fc, rfl⟩, hb1⟩
                 have HX1 := Lib.hid (HNB.out.step hb1)
                 have HB1 := Lib.hid (bl_trans HB0.out hb1)
                 clear hb1)
    go_ret
    exact ⟨ret_i HE.out, bl_alloc HB1.out _⟩
  | true =>
    go_upto_region 2 with (go_at_call 34
                           with_reducible refine HFD.out.mono ?_
                           rintro e w1 ⟨⟨fa, fb, fc, rfl⟩, hb1⟩
                           have HX1 := Lib.hid (HNB.out.step hb1)
                           have HB1 := Lib.hid (bl_trans HB0.out hb1)
                           clear hb1)
    have hb2 := bl_alloc HB1.out (.cells #[.string fa, .int .i64 fb, .string fc] 29)
    have n2 := HX1.out.step (bl_alloc (Below.refl w1.heap.size w1) (.cells #[.string fa, .int .i64 fb, .string fc] 29))
    generalize w1.alloc (.cells #[.string fa, .int .i64 fb, .string fc] 29) = w2 at hb2 n2 ⊢
    generalize w1.heap.size = g5
    have HB2 := Lib.hid hb2
    have b2 := n2.cell 2 (v := .int .i64 x.tm) (by rw [← HB.out]; rfl)
    have ld2 := n2.load HB.out
    have HN2 := Lib.hid n2
    have HID := Lib.hid (show Calls Tryd.prog 35 #[.agg B] w2 fun e w' => e = .returned (.int .i64 (identC x)) ∧ Below w2.heap.size w2 w' from by
      rw [← HB.out]
      exact identified_any x vx w2 hpl)
    clear hb2 n2 a0 a1 b1
    have HCK := Lib.hid (show checkC x l = if x.tm < 0 ∨ 68719476736 ≤ x.tm then 12 else if identC x ≠ 0 then identC x
      else if x.cls < 0 ∨ 9 < x.cls then 20 else if x.sco < 0 ∨ 1000 < x.sco then 1 else if x.src.length = 0 ∨ 24 < x.src.length then 3
      else if srcsE x.src ≠ 0 then srcsE x.src else if x.id = idC x then 0 else 6 from by unfold checkC; rw [if_neg (by rw [HFDE.out]; decide)])
    obtain ⟨ic, hic⟩ : ∃ ic, identC x = ic := ⟨_, rfl⟩
    rw [hic] at HID HCK
    clear hic
    have htm : x.tm < 0 ∨ (0 ≤ x.tm ∧ 68719476736 ≤ x.tm) ∨ (0 ≤ x.tm ∧ x.tm < 68719476736) := by omega
    rcases htm with t1 | ⟨t1, t2⟩ | ⟨t1, t2⟩
    · have HE := Lib.hid (HCK.out.trans (if_pos (.inl t1)))
      go_wp2
      go_ret
      exact ⟨ret_i HE.out, HB2.out⟩
    · have HE := Lib.hid (HCK.out.trans (if_pos (.inr t2)))
      go_wp2
      go_ret
      exact ⟨ret_i HE.out, HB2.out⟩
    have HCK := Lib.hid (HCK.out.trans (if_neg (by omega)))
    go_upto_region 7 with (first
      | (refine wpList_loadA _ rfl 24 rfl Tryd.isAgg24 Tryd.sizeOf24 rfl (by with_reducible assumption) ?_)
      | (go_at_call 35
         with_reducible refine HID.out.mono ?_
         rintro e w3 ⟨rfl, hb3⟩
         have n3 := HN2.out.step hb3
         have HB3 := Lib.hid (bl_trans HB2.out hb3)
         clear hb3 b2 ld2))
    clear t1 t2
    by_cases hic : ic = 0
    case neg =>
      have hic' : (ic != 0) = true := by simp [hic]
      have HE := Lib.hid (HCK.out.trans (if_pos hic))
      clear hic
      go_wp2
      go_ret
      exact ⟨ret_i HE.out, HB3.out⟩
    have hic' : (ic != 0) = false := by simp [hic]
    have HCK := Lib.hid (HCK.out.trans (if_neg (fun q => q hic)))
    clear hic
    obtain ⟨sa, sn, sc, rfl⟩ : ∃ sa sn sc, vx = .slice sa sn sc := by
      obtain ⟨a, c, _, _, rfl, -⟩ := H.out
      exact ⟨_, _, _, rfl⟩
    have b0 := n3.cell 0 (v := .string x.id) (by rw [← HB.out]; rfl)
    have b5 := n3.cell 5 (v := .int .i64 x.cls) (by rw [← HB.out]; rfl)
    have b6 := n3.cell 6 (v := .int .i64 x.sco) (by rw [← HB.out]; rfl)
    have b7 := n3.cell 7 (v := .slice sa sn sc) (by rw [← HB.out]; rfl)
    have HN3 := Lib.hid n3
    clear n3
    have hcl : x.cls < 0 ∨ (0 ≤ x.cls ∧ 9 < x.cls) ∨ (0 ≤ x.cls ∧ x.cls ≤ 9) := by omega
    rcases hcl with t1 | ⟨t1, t2⟩ | ⟨t1, t2⟩
    · have HE := Lib.hid (HCK.out.trans (if_pos (.inl t1)))
      go_wp2
      go_ret
      exact ⟨ret_i HE.out, HB3.out⟩
    · have HE := Lib.hid (HCK.out.trans (if_pos (.inr t2)))
      go_wp2
      go_ret
      exact ⟨ret_i HE.out, HB3.out⟩
    have HCK := Lib.hid (HCK.out.trans (if_neg (by omega)))
    have hsc : x.sco < 0 ∨ (0 ≤ x.sco ∧ 1000 < x.sco) ∨ (0 ≤ x.sco ∧ x.sco ≤ 1000) := by omega
    rcases hsc with t3 | ⟨t3, t4⟩ | ⟨t3, t4⟩
    · have HE := Lib.hid (HCK.out.trans (if_pos (.inl t3)))
      go_wp2
      go_ret
      exact ⟨ret_i HE.out, HB3.out⟩
    · have HE := Lib.hid (HCK.out.trans (if_pos (.inr t4)))
      go_wp2
      go_ret
      exact ⟨ret_i HE.out, HB3.out⟩
    have HCK := Lib.hid (HCK.out.trans (if_neg (by omega)))
    obtain ⟨ao, cp, b, o, hv, q1, q2, ho⟩ := src_row H.out
    simp only [Value.slice.injEq] at hv
    obtain ⟨rfl, rfl, rfl⟩ := hv
    have HO := Lib.hid ho
    clear ho q1
    have hlen : x.src.length = 0 ∨ (x.src.length ≠ 0 ∧ 24 < x.src.length) ∨ (x.src.length ≠ 0 ∧ x.src.length ≤ 24) := by omega
    rcases hlen with t5 | ⟨t5, t6⟩ | ⟨t5, t6⟩
    · have HE := Lib.hid (HCK.out.trans (if_pos (.inl t5)))
      have f1 : ((x.src.length : Int) == 0) = true := by rw [t5]; rfl
      clear t5
      go_wp2
      go_ret
      exact ⟨ret_i HE.out, HB3.out⟩
    · have HE := Lib.hid (HCK.out.trans (if_pos (.inr t6)))
      have f1 : ((x.src.length : Int) == 0) = false := by rw [beq_eq_false_iff_ne]; omega
      have f2 : (24 : Int) < (x.src.length : Int) := by omega
      clear t5 t6
      go_wp2
      go_ret
      exact ⟨ret_i HE.out, HB3.out⟩
    have HCK := Lib.hid (HCK.out.trans (if_neg (by omega)))
    have f1 : ((x.src.length : Int) == 0) = false := by rw [beq_eq_false_iff_ne]; omega
    have f2 : ¬ (24 : Int) < (x.src.length : Int) := by omega
    have HL6 := Lib.hid t6
    clear t5 t6
    go_wp2
    clear f1 f2 t1 t2 t3 t4 b0 b5 b6 b7 hic'
    go_loopg [64] x.src.length (fun gx i wr => ∃ k : Nat, k + gx = x.src.length ∧ i = .int .i64 k ∧ Hid (srcsE x.src = orL ((srcsM x.src).drop k)) ∧ Below w3.heap.size w3 wr)
    case atStart => exact ⟨0, by omega, rfl, Lib.hid rfl, Below.refl _ _⟩
    case round =>
      obtain ⟨wo, rfl⟩ : ∃ wo : World, wo = wr := ⟨_, rfl⟩
      obtain ⟨k, hk, rfl, HT, hb⟩ := hrel
      have hbw : Below w.heap.size w wo := bl_trans HB3.out hb
      have nb := HN3.out.step hb
      have b7 := nb.cell 7 (v := .slice sa x.src.length sc) (by rw [← HB.out]; rfl)
      by_cases hlt : k < x.src.length
      · obtain ⟨rfl, -, hbk, hok, c0, c1⟩ := HO.out wo (.of_below hbw) k hlt
        have HNX := Lib.hid (srcs_next hlt)
        have HSO := Lib.hid (List.getElem?_eq_getElem hlt)
        have HPRV := Lib.hid (show ∀ m, m + 1 = k → ∃ y, x.src[m]? = some y ∧ wo.cell? ⟨b, o + m * 2, none⟩ = some (.string y.dev) ∧ wo.cell? ⟨b, o + m * 2 + 1, none⟩ = some (.int .i64 y.seq) from fun m hm => by
          obtain ⟨-, -, -, -, e0, e1⟩ := HO.out wo (.of_below hbw) m (by omega)
          exact ⟨_, List.getElem?_eq_getElem (by omega), e0, e1⟩)
        generalize x.src[k] = s at HNX HSO c0 c1 hok
        have HERR := Lib.hid (show ∀ c : Int, srcP x.src k s = c → c ≠ 0 → checkC x l = c from fun c h1 h2 => by
          have e : srcsE x.src = c := by rw [HT.out, HNX.out, h1, if_neg h2]
          rw [HCK.out, e, if_pos h2])
        have HNXT := Lib.hid (show srcP x.src k s = 0 → srcsE x.src = orL ((srcsM x.src).drop (k + 1)) from fun h1 => by rw [HT.out, HNX.out, if_pos h1])
        have HN1 := name_hid s.dev
        obtain ⟨nb1, hn1⟩ : ∃ c, nameC s.dev = c := ⟨_, rfl⟩
        rw [hn1] at HN1
        have HNE := Lib.hid hn1
        have n9 := heap_alloc_new wo (.cells #[.string s.dev, .int .i64 s.seq] 54)
        have hba := bl_alloc (Below.refl wo.heap.size wo) (.cells #[.string s.dev, .int .i64 s.seq] 54)
        have HBA := Lib.hid hba
        have HBL := Lib.hid hbw.size
        have HB9 := Lib.hid (bl_alloc hbw (.cells #[.string s.dev, .int .i64 s.seq] 54))
        have HW9 := Lib.hid (bl_alloc hb (.cells #[.string s.dev, .int .i64 s.seq] 54))
        have N9 := Lib.hid n9
        have hl9 := lt_of_heap n9
        have NB9 := Lib.hid (nb.step hba)
        obtain ⟨e0, e1, -⟩ := blk2 n9
        have k0 : (0 : Int) ≤ (k : Int) := by omega
        have k1 : (k : Int) < (x.src.length : Int) := by omega
        have k24 : (x.src.length : Int) ≤ 24 := by have := HL6.out; omega
        clear hbk hn1 n9 hba nb hb hbw
        cases nb1 with
        | false =>
          have HE := Lib.hid (HERR.out 6 (srcP_name HNE.out) (by decide))
          go_wp2_with (go_at_call 36
                       with_reducible refine (HN1.out _).mono ?_
                       rintro e w4 ⟨rfl, hb4⟩
                       have M9 := Lib.hid ((hb4.block _ hl9).trans N9.out)
                       obtain ⟨d0, d1, -⟩ := blk2 M9.out
                       have HB4 := Lib.hid (bl_trans HB9.out hb4)
                       have HW4 := Lib.hid (bl_trans HW9.out hb4)
                       have BL4 := Lib.hid (bl_trans HBA.out hb4)
                       have LW := Lib.hid HBL.out
                       have NB4 := Lib.hid (NB9.out.step hb4)
                       clear hb4)
          go_ret
          exact ⟨ret_i HE.out, HB4.out⟩
        | true =>
          have hsq : s.seq < 0 ∨ (0 ≤ s.seq ∧ 2147483648 < s.seq) ∨ (0 ≤ s.seq ∧ s.seq ≤ 2147483648) := by omega
          rcases hsq with t1 | ⟨t1, t2⟩ | ⟨t1, t2⟩
          · have HE := Lib.hid (HERR.out 2 (srcP_seq HNE.out (.inl t1)) (by decide))
            go_wp2_with (go_at_call 36
                         with_reducible refine (HN1.out _).mono ?_
                         rintro e w4 ⟨rfl, hb4⟩
                         have M9 := Lib.hid ((hb4.block _ hl9).trans N9.out)
                         obtain ⟨d0, d1, -⟩ := blk2 M9.out
                         have HB4 := Lib.hid (bl_trans HB9.out hb4)
                         have HW4 := Lib.hid (bl_trans HW9.out hb4)
                         have BL4 := Lib.hid (bl_trans HBA.out hb4)
                         have LW := Lib.hid HBL.out
                         have NB4 := Lib.hid (NB9.out.step hb4)
                         clear hb4)
            go_ret
            exact ⟨ret_i HE.out, HB4.out⟩
          · have HE := Lib.hid (HERR.out 2 (srcP_seq HNE.out (.inr t2)) (by decide))
            go_wp2_with (go_at_call 36
                         with_reducible refine (HN1.out _).mono ?_
                         rintro e w4 ⟨rfl, hb4⟩
                         have M9 := Lib.hid ((hb4.block _ hl9).trans N9.out)
                         obtain ⟨d0, d1, -⟩ := blk2 M9.out
                         have HB4 := Lib.hid (bl_trans HB9.out hb4)
                         have HW4 := Lib.hid (bl_trans HW9.out hb4)
                         have BL4 := Lib.hid (bl_trans HBA.out hb4)
                         have LW := Lib.hid HBL.out
                         have NB4 := Lib.hid (NB9.out.step hb4)
                         clear hb4)
            go_ret
            exact ⟨ret_i HE.out, HB4.out⟩
          · have HSQ := Lib.hid (show ¬ (s.seq < 0 ∨ 2147483648 < s.seq) by omega)
            go_upto_region 22 with (go_at_call 36
                                    with_reducible refine (HN1.out _).mono ?_
                                    rintro e w4 ⟨rfl, hb4⟩
                                    have M9 := Lib.hid ((hb4.block _ hl9).trans N9.out)
                                    obtain ⟨d0, d1, -⟩ := blk2 M9.out
                                    have HB4 := Lib.hid (bl_trans HB9.out hb4)
                                    have HW4 := Lib.hid (bl_trans HW9.out hb4)
                                    have BL4 := Lib.hid (bl_trans HBA.out hb4)
                                    have LW := Lib.hid HBL.out
                                    have NB4 := Lib.hid (NB9.out.step hb4)
                                    clear hb4)
            clear t1 t2 d0 d1 c0 c1 b7
            generalize wo.heap.size = g9 at e0 e1 N9 hl9 M9 ⊢
            rcases Nat.eq_zero_or_pos k with hk0 | hk0
            · have kz : decide (0 < k) = false := by rw [decide_eq_false_iff_not]; omega
              have HE := Lib.hid (HNXT.out (by rw [hk0]; exact srcP_zero HNE.out HSQ.out))
              clear hk0 e0 e1
              refine QW.regionG (by kernel_rfl) (by kernel_rfl) ?_
              (iterate 3 (refine QW.yes (by kernel_rfl) (fun K hK => ?_)
                          go_simp
                          (with_reducible refine hK _ ?_)
                          clear hK K))
              (iterate 9 (refine QW.no (by kernel_rfl) ?_
                          (try simp only [Act.put])
                          (try simp only [List.setIfInBounds_toArray])
                          (repeat (first | simp only [List.set_cons_succ] | simp only [List.set_cons_zero]))))
              (iterate 2 (refine QW.yes (by kernel_rfl) (fun K hK => ?_)
                          go_simp
                          (with_reducible refine hK _ ?_)
                          clear hK K))
              refine QW.nil ?_
              intro _ hw'
              obtain ⟨⟨nq, osq⟩, hw''⟩ := hw'
              subst hw''
              have HGQ := Lib.hid (show GrB w4 (grow (w4.drewN nq) osq) from ⟨nq, osq, rfl⟩)
              generalize grow (w4.drewN nq) osq = wq at HGQ ⊢
              go_wp2
              go_roundg (x.src.length - (k + 1))
              case measure => omega
              case rel => exact ⟨k + 1, by omega, by go_num, HE, bl_trans HW4.out HGQ.out.below⟩
            · obtain ⟨m, hm⟩ : ∃ m, m + 1 = k := ⟨k - 1, by omega⟩
              obtain ⟨y, hy, y0, y1⟩ := HPRV.out m hm
              have hw1 : IntKind.i64.wrap ((k : Int) - 1) = (m : Int) := by rw [wrap_in (by omega) (by omega)]; omega
              have HPS := Lib.hid (srcP_succ hm hy HNE.out HSQ.out)
              obtain ⟨-, -, hbk, -, -, -⟩ := HO.out w (SameOn.refl _ _) m (by omega)
              have kz' : 0 < k := by omega
              have m0 : (0 : Int) ≤ (m : Int) := by omega
              have m1 : (m : Int) < (x.src.length : Int) := by omega
              have z0 := (BL4.out.cell (p := ⟨b, o + m * 2, none⟩) (Nat.lt_of_lt_of_le hbk LW.out)).trans y0
              have z1 := (BL4.out.cell (p := ⟨b, o + m * 2 + 1, none⟩) (Nat.lt_of_lt_of_le hbk LW.out)).trans y1
              have hbk4 : b < w4.heap.size := Nat.lt_of_lt_of_le hbk HB4.out.size
              have hgb4 : gb < w4.heap.size := lt_of_heap (show w4.heap[gb]? = some (.cells B 24 (0, 0)) from NB4.out)
              have hg94 : g9 < w4.heap.size := lt_of_heap M9.out
              have v7 := fun n os => cell_grown hgb4 (NB4.out.cell 7 (v := .slice (some ⟨b, o, none⟩) x.src.length sc) (by rw [← HB.out]; rfl)) n os
              have v0 := fun n os => cell_grown hbk4 z0 n os
              have v1 := fun n os => cell_grown hbk4 z1 n os
              have v2 := fun n os => cell_grown hg94 (blk2 M9.out).1 n os
              have v3 := fun n os => cell_grown hg94 (blk2 M9.out).2.1 n os
              have HSR := Lib.hid (fun (w : World) => source_any y s w)
              simp only [srcCells] at HSR
              obtain ⟨d, hd⟩ : ∃ d, srcC y s = d := ⟨_, rfl⟩
              rw [hd] at HSR HPS
              clear hd hy y0 y1 z0 z1 hbk hbk4 hgb4 hg94 hm hk0 e0 e1 HPRV
              refine QW.regionG (by kernel_rfl) (by kernel_rfl) ?_
              (iterate 10 (refine QW.yes (by kernel_rfl) (fun K hK => ?_)
                           go_simp
                           (with_reducible refine hK _ ?_)
                           clear hK K))
              (refine QW.yes (by kernel_rfl) (fun K hK => ?_)
               go_simp
               apply Exists.intro
               refine ⟨fun _ => ?_, hK _ ?_⟩
               (go_at_call 37; with_reducible exact Calls.grown_of (HSR.out _))
               clear hK K)
              by_cases hd0 : 0 ≤ d
              · have HE := Lib.hid (HERR.out 15 (HPS.out.trans (if_pos hd0)) (by decide))
                (iterate 3 (refine QW.yes (by kernel_rfl) (fun K hK => ?_)
                            go_simp
                            (with_reducible refine hK _ ?_)
                            clear hK K))
                refine QW.nil ?_
                intro _ hw'
                obtain ⟨⟨nq, osq⟩, hw''⟩ := hw'
                subst hw''
                have HGQ := Lib.hid (show GrB w4 (grow (w4.drewN nq) osq) from ⟨nq, osq, rfl⟩)
                clear v7 v0 v1 v2 v3
                generalize grow (w4.drewN nq) osq = wq at HGQ ⊢
                go_wp2
                go_ret
                exact ⟨ret_i HE.out, bl_trans HB4.out HGQ.out.below⟩
              · have HE := Lib.hid (HNXT.out (HPS.out.trans (if_neg hd0)))
                (iterate 3 (refine QW.yes (by kernel_rfl) (fun K hK => ?_)
                            go_simp
                            (with_reducible refine hK _ ?_)
                            clear hK K))
                refine QW.nil ?_
                intro _ hw'
                obtain ⟨⟨nq, osq⟩, hw''⟩ := hw'
                subst hw''
                have HGQ := Lib.hid (show GrB w4 (grow (w4.drewN nq) osq) from ⟨nq, osq, rfl⟩)
                clear v7 v0 v1 v2 v3
                generalize grow (w4.drewN nq) osq = wq at HGQ ⊢
                go_wp2
                go_roundg (x.src.length - (k + 1))
                case measure => omega
                case rel => exact ⟨k + 1, by omega, by go_num, HE, bl_trans HW4.out HGQ.out.below⟩
      · have hkl : ¬ (k : Int) < (x.src.length : Int) := by omega
        have HCK := Lib.hid (HCK.out.trans (if_neg (fun q => q (HT.out.trans (srcs_end (by omega))))))
        have hgbl : gb < wo.heap.size := lt_of_heap (show wo.heap[gb]? = some (.cells B 24 (0, 0)) from nb)
        have v0 := fun n os => cell_grown hgbl (nb.cell 0 (v := .string x.id) (by rw [← HB.out]; rfl)) n os
        have LD2 := Lib.hid (show ∀ n os, Sem.run Tryd.prog (loadCellsFrom ⟨gb, 0, none⟩ 0 8 #[]) (grow (wo.drewN n) os) = .ok B (grow (wo.drewN n) os) from fun n os => (nb.step (GrB.below ⟨n, os, rfl⟩)).load HB.out)
        have HIDC := Lib.hid (show ∀ n os, Calls Tryd.prog 15 #[.agg B] (grow (wo.drewN n) os) fun e w' => e = .returned (.string (idC x)) ∧ ∃ q os', w' = grow ((grow (wo.drewN n) os).drewN q) os' from fun n os => by
          rw [← HB.out]
          exact ID_any x _ _ (H.out.step (bl_trans hbw (GrB.below ⟨n, os, rfl⟩))) hd (fun s hs => by
            obtain ⟨j, hj, rfl⟩ := List.getElem_of_mem hs
            exact (HO.out w (SameOn.refl _ _) j hj).2.2.2.1.seq) (fun s hs => (hf s hs).step (bl_trans hbw (GrB.below ⟨n, os, rfl⟩))))
        have HBW := Lib.hid hbw
        obtain ⟨ic, hic⟩ : ∃ ic, idC x = ic := ⟨_, rfl⟩
        rw [hic] at HCK HIDC
        obtain ⟨r, hr⟩ : ∃ r, (x.id.toList == ic.toList) = r := ⟨_, rfl⟩
        have HR := Lib.hid hr
        clear hb hbw nb hgbl b7 hic
        go_upto_region 25 with (fail)
        refine wp_region_quiet_grown (by kernel_rfl) (by kernel_rfl) ?_
        (iterate 2 (quiet_step (fail)))
        refine wpQuiet_step (fun K hK => ?_)
        rw [if_pos (show _ = true by kernel_rfl)]
        refine quiet_loadA (A := B) rfl Tryd.isAgg24 Tryd.sizeOf24 rfl (fun w' hw' => ?_) (hK _ ?_)
        · obtain ⟨⟨nq, osq⟩, rfl⟩ := hw'
          exact LD2.out nq osq
        clear hK K
        quiet_step ((go_at_call 15; with_reducible exact Calls.grown_of (HIDC.out _ _)))
        quiet_step (fail)
        refine wpQuiet_nil ?_
        intro _ hw'
        obtain ⟨⟨nq, osq⟩, hw''⟩ := hw'
        subst hw''
        have HGQ := Lib.hid (show GrB wo (grow (wo.drewN nq) osq) from ⟨nq, osq, rfl⟩)
        clear v0 LD2 HIDC
        generalize grow (wo.drewN nq) osq = wq at HGQ ⊢
        clear hr
        cases r with
        | true =>
          have HE := Lib.hid (HCK.out.trans (if_pos (by
            have h1 := HR.out
            rw [eq_str, decide_eq_true_eq] at h1
            exact h1)))
          go_wp2
          go_ret
          exact ⟨ret_i HE.out, by first | exact bl_trans HBW.out HGQ.out.below | (rw [← hgb]; exact bl_trans HBW.out HGQ.out.below)⟩
        | false =>
          have HE := Lib.hid (HCK.out.trans (if_neg (by
            have h1 := HR.out
            rw [eq_str, decide_eq_false_iff_not] at h1
            exact h1)))
          go_wp2
          go_ret
          exact ⟨ret_i HE.out, by first | exact bl_trans HBW.out HGQ.out.below | (rw [← hgb]; exact bl_trans HBW.out HGQ.out.below)⟩
end Go.Proofs.YtbjhemglecllmaaDoor
