/-
  Layer 17 (passage): the reference's Check.
-/
import Derived.Test.YtbjhemglecllmaaDoorPsCr
namespace Go.Proofs.YtbjhemglecllmaaDoor
open Go.RowKit Go.Tw Go.Tw.Ord Go.Tw.Ps Go.Sort Go.Tw.Plate
set_option maxRecDepth 100000 in
set_option maxHeartbeats 8000000 in
theorem checkR_any (x : Pas) (vx : Value) (l : List Pnt) (vl : Value) (W : World) (h : SlIs tSrc (· < W.heap.size) W vx x.src) (hpl : x.plt.size ≤ 1000000) (htg : x.tag.size ≤ 1000) (hd : ∀ s ∈ x.src, s.dev.size ≤ 1000) (hf : ∀ s ∈ x.src, FmtOk s.seq W)
    (hn : SlIs tPnt (· < W.heap.size) W vl l) (hl : l.length ≤ 1000) :
    Calls Tryd.prog 14 #[.agg (pCells x vx).toArray, .agg #[vl, .slice none 0 0]] W fun e w' => e = .returned (.int .i64 (checkC x l)) ∧ Below W.heap.size W w' := by
  obtain ⟨B, hB⟩ : ∃ B, (pCells x vx).toArray = B := ⟨_, rfl⟩
  have n0 : PBox ((W.alloc (.cells B 24)).alloc (.cells #[vl, .slice none 0 0] 32)) W.heap.size B := alloc2_0 W _ _
  have n1 := alloc2_1 W (.cells B 24) (.cells #[vl, .slice none 0 0] 32)
  have hb0 := bl_alloc (bl_alloc (Below.refl W.heap.size W) (.cells B 24)) (.cells #[vl, .slice none 0 0] 32)
  have HB := Lib.hid hB
  have H := Lib.hid h
  have HNT := Lib.hid hn
  rw [hB]
  clear hB h hn
  go_enter Tryd.func14, Tryd.ntmps14
  go_upto_region 1 with (fail)
  obtain ⟨w0, hw0⟩ : ∃ w0, (W.alloc (.cells B 24)).alloc (.cells #[vl, .slice none 0 0] 32) = w0 := ⟨_, rfl⟩
  rw [hw0] at n0 n1 hb0 ⊢
  clear hw0
  have HB0 := Lib.hid hb0
  have HFD := Lib.hid (graphFindR_any l vl x.pt w0 (HNT.out.step hb0) hl)
  have HNB := Lib.hid n0
  obtain ⟨a0, a1, -⟩ := blk2 n1
  have b1 := n0.cell 1 (v := .string x.pt) (by rw [← HB.out]; rfl)
  obtain ⟨fd, hfd⟩ : ∃ fd, fndB l x.pt = fd := ⟨_, rfl⟩
  rw [hfd] at HFD
  have HFDE := Lib.hid hfd
  clear n0 n1 hfd hb0
  cases fd with
  | false =>
    have HE := Lib.hid (show checkC x l = 16 from by unfold checkC; rw [if_pos HFDE.out])
    go_wp2_with (go_at_call 38
                 with_reducible refine HFD.out.mono ?_
                 rintro e w1 ⟨⟨fa, fb, fc, rfl⟩, hb1⟩
                 have HX1 := Lib.hid (HNB.out.step hb1)
                 have HB1 := Lib.hid (bl_trans HB0.out hb1)
                 clear hb1)
    go_ret
    exact ⟨ret_i HE.out, bl_alloc HB1.out _⟩
  | true =>
    go_upto_region 2 with (go_at_call 38
                           with_reducible refine HFD.out.mono ?_
                           rintro e w1 ⟨⟨fa, fb, fc, rfl⟩, hb1⟩
                           have HX1 := Lib.hid (HNB.out.step hb1)
                           have HB1 := Lib.hid (bl_trans HB0.out hb1)
                           clear hb1)
    have hb2 := bl_alloc HB1.out (.cells #[.string fa, .int .i64 fb, .string fc] 29)
    have n2 := HX1.out.step (bl_alloc (Below.refl w1.heap.size w1) (.cells #[.string fa, .int .i64 fb, .string fc] 29))
    generalize w1.alloc (.cells #[.string fa, .int .i64 fb, .string fc] 29) = w2 at hb2 n2 ⊢
    generalize w1.heap.size = g5
    have HB2 := Lib.hid hb2
    generalize W.heap.size = gb at n2 ⊢
    have b2 := n2.cell 2 (v := .int .i64 x.tm) (by rw [← HB.out]; rfl)
    have b3 := n2.cell 3 (v := .string x.tag) (by rw [← HB.out]; rfl)
    have b4 := n2.cell 4 (v := .string x.plt) (by rw [← HB.out]; rfl)
    have HN2 := Lib.hid n2
    clear hb2 n2 a0 a1 b1
    have HCK := Lib.hid (show checkC x l = if x.tm < 0 ∨ 68719476736 ≤ x.tm then 12 else if identC x ≠ 0 then identC x
      else if x.cls < 0 ∨ 9 < x.cls then 20 else if x.sco < 0 ∨ 1000 < x.sco then 1 else if x.src.length = 0 ∨ 24 < x.src.length then 3
      else if srcsE x.src ≠ 0 then srcsE x.src else if x.id = idC x then 0 else 6 from by unfold checkC; rw [if_neg (by rw [HFDE.out]; decide)])
    by_cases htm : x.tm < 0 ∨ 68719476736 ≤ x.tm
    · have HTM := Lib.hid (show timeOk x.tm = false from by unfold timeOk; rcases htm with q | q <;> simp <;> omega)
      have HE := Lib.hid (HCK.out.trans (if_pos htm))
      clear htm
      go_wp2_with (go_at_call 39
                   with_reducible refine (IsTime_any _ _).mono ?_
                   rintro e w3 ⟨rfl, rfl⟩
                   rw [HTM.out])
      go_ret
      exact ⟨ret_i HE.out, HB2.out⟩
    have HTM := Lib.hid (show timeOk x.tm = true from by unfold timeOk; simp; omega)
    have HCK := Lib.hid (HCK.out.trans (if_neg htm))
    clear htm
    go_upto_region 6 with (go_at_call 39
                           with_reducible refine (IsTime_any _ _).mono ?_
                           rintro e w3 ⟨rfl, rfl⟩
                           rw [HTM.out])
    have HTG := Lib.hid (fun (w' : World) => tagCheckR_any x.tag w')
    have HNR := Lib.hid (fun (w' : World) => NormalR_any x.plt w' hpl)
    rw [nrm_R] at HNR
    obtain ⟨tc, htc⟩ : ∃ tc, tagE 18 x.tag = tc := ⟨_, rfl⟩
    obtain ⟨nc, hnc⟩ : ∃ nc, (nrm x.plt).2 = nc := ⟨_, rfl⟩
    obtain ⟨ns, hns⟩ : ∃ ns, (nrm x.plt).1 = ns := ⟨_, rfl⟩
    rw [htc] at HTG
    rw [hnc, hns] at HNR
    have HNC := Lib.hid hnc
    have HNS := Lib.hid hns
    have HTC := Lib.hid htc
    clear htc hnc hns b2
    by_cases ht : x.tag = es
    · have e1 : x.tag.toList.isEmpty = true := by rw [emp_iff]; simpa using ht
      have HT := Lib.hid (show x.tag = es ∨ tagE 18 x.tag = 0 from .inl ht)
      have HTE := Lib.hid ht
      clear ht
      by_cases hp : x.plt = es
      · have e2 : x.plt.toList.isEmpty = true := by rw [emp_iff]; simpa using hp
        have HE := Lib.hid (show checkC x l = 1 from HCK.out.trans (by rw [ident1 HTE.out hp, if_pos (by decide)]))
        clear hp
        go_wp2
        go_ret
        exact ⟨ret_i HE.out, HB2.out⟩
      · have e2 : x.plt.toList.isEmpty = false := by rw [emp_iff]; simpa using hp
        have HP := Lib.hid hp
        clear hp
        by_cases hc0 : nc = 0
        · have hc' : (nc != 0) = false := by simp [hc0]
          have HC := Lib.hid (HNC.out.trans hc0)
          clear hc0
          by_cases hs0 : ns = x.plt
          · have hs' : (ns.toList == x.plt.toList) = true := by rw [eq_str]; simpa using hs0
            have hs2 : (ns.toList != x.plt.toList) = false := by rw [bne, hs']; rfl
            have HCK := Lib.hid (HCK.out.trans (if_neg (fun q => q (ident4 HT.out (fun q => HP.out q.2) (.inr ⟨HC.out, HNS.out.trans hs0⟩)))))
            clear hs0
            go_upto_region 13 with (first
              | (fail)
              | (go_at_call 41
                 with_reducible refine (HNR.out _).mono ?_
                 rintro e w4 ⟨rfl, hb4⟩
                 have n4 := HN2.out.step hb4
                 have b5 := n4.cell 4 (v := .string x.plt) (by rw [← HB.out]; rfl)
                 have HN4 := Lib.hid n4
                 have HB4 := Lib.hid (bl_trans HB2.out hb4)
                 clear hb4 n4))
            clear b3 b4 b5
            obtain ⟨sa, sn, sc, rfl⟩ : ∃ sa sn sc, vx = .slice sa sn sc := by
              obtain ⟨a, c, _, _, rfl, -⟩ := H.out
              exact ⟨_, _, _, rfl⟩
            have b0 := HN4.out.cell 0 (v := .string x.id) (by rw [← HB.out]; rfl)
            have b5 := HN4.out.cell 5 (v := .int .i64 x.cls) (by rw [← HB.out]; rfl)
            have b6 := HN4.out.cell 6 (v := .int .i64 x.sco) (by rw [← HB.out]; rfl)
            have b7 := HN4.out.cell 7 (v := .slice sa sn sc) (by rw [← HB.out]; rfl)
            have hcl : x.cls < 0 ∨ (0 ≤ x.cls ∧ 9 < x.cls) ∨ (0 ≤ x.cls ∧ x.cls ≤ 9) := by omega
            rcases hcl with t1 | ⟨t1, t2⟩ | ⟨t1, t2⟩
            · have HE := Lib.hid (HCK.out.trans (if_pos (.inl t1)))
              go_wp2
              go_ret
              exact ⟨ret_i HE.out, HB4.out⟩
            · have HE := Lib.hid (HCK.out.trans (if_pos (.inr t2)))
              go_wp2
              go_ret
              exact ⟨ret_i HE.out, HB4.out⟩
            have HCK := Lib.hid (HCK.out.trans (if_neg (by omega)))
            have hsc : x.sco < 0 ∨ (0 ≤ x.sco ∧ 1000 < x.sco) ∨ (0 ≤ x.sco ∧ x.sco ≤ 1000) := by omega
            rcases hsc with t3 | ⟨t3, t4⟩ | ⟨t3, t4⟩
            · have HE := Lib.hid (HCK.out.trans (if_pos (.inl t3)))
              go_wp2
              go_ret
              exact ⟨ret_i HE.out, HB4.out⟩
            · have HE := Lib.hid (HCK.out.trans (if_pos (.inr t4)))
              go_wp2
              go_ret
              exact ⟨ret_i HE.out, HB4.out⟩
            have HCK := Lib.hid (HCK.out.trans (if_neg (by omega)))
            obtain ⟨ao, cp, b, o, hv, q1, q2, ho⟩ := src_row H.out
            simp only [Value.slice.injEq] at hv
            obtain ⟨rfl, rfl, rfl⟩ := hv
            have HO := Lib.hid ho
            clear ho q1
            have hlen : x.src.length = 0 ∨ (x.src.length ≠ 0 ∧ 24 < x.src.length) ∨ (x.src.length ≠ 0 ∧ x.src.length ≤ 24) := by omega
            rcases hlen with t5 | ⟨t5, t6⟩ | ⟨t5, t6⟩
            · have HE := Lib.hid (HCK.out.trans (if_pos (.inl t5)))
              have f1 : (x.src.length : Int) < 1 := by omega
              clear t5
              go_wp2
              go_ret
              exact ⟨ret_i HE.out, HB4.out⟩
            · have HE := Lib.hid (HCK.out.trans (if_pos (.inr t6)))
              have f1 : ¬ (x.src.length : Int) < 1 := by omega
              have f2 : (24 : Int) < (x.src.length : Int) := by omega
              clear t5 t6
              go_wp2
              go_ret
              exact ⟨ret_i HE.out, HB4.out⟩
            have HCK := Lib.hid (HCK.out.trans (if_neg (by omega)))
            have f1 : ¬ (x.src.length : Int) < 1 := by omega
            have f2 : ¬ (24 : Int) < (x.src.length : Int) := by omega
            have HL6 := Lib.hid t6
            clear t5 t6
            go_wp2
            clear f1 f2 t1 t2 t3 t4 b0 b5 b6 b7
            go_loopg [9] x.src.length (fun gx i wr => ∃ k : Nat, k + gx = x.src.length ∧ i = .int .i64 k ∧ Hid (srcsE x.src = orL ((srcsM x.src).drop k)) ∧ Below w4.heap.size w4 wr)
            case atStart => exact ⟨0, by omega, rfl, Lib.hid rfl, Below.refl _ _⟩
            case round =>
              obtain ⟨wo, rfl⟩ : ∃ wo : World, wo = wr := ⟨_, rfl⟩
              obtain ⟨k, hk, rfl, HT2, hb⟩ := hrel
              have hbw : Below W.heap.size W wo := bl_trans HB4.out hb
              have nb := HN4.out.step hb
              have b7 := nb.cell 7 (v := .slice sa x.src.length sc) (by rw [← HB.out]; rfl)
              by_cases hlt : k < x.src.length
              · have HNX := Lib.hid (srcs_next hlt)
                have HSC := Lib.hid (srcR_any x.src (.slice sa x.src.length sc) k hlt wo (H.out.step hbw) (by have := HL6.out; omega))
                have HER := Lib.hid (show srcP x.src k x.src[k] ≠ 0 → checkC x l = srcP x.src k x.src[k] from fun h2 => by
                  have e : srcsE x.src = srcP x.src k x.src[k] := by rw [HT2.out, HNX.out, if_neg h2]
                  rw [HCK.out, e, if_pos h2])
                have HNXT := Lib.hid (show srcP x.src k x.src[k] = 0 → srcsE x.src = orL ((srcsM x.src).drop (k + 1)) from fun h1 => by rw [HT2.out, HNX.out, if_pos h1])
                obtain ⟨c, hc⟩ : ∃ c, srcP x.src k x.src[k] = c := ⟨_, rfl⟩
                rw [hc] at HSC HER HNXT
                have HBO := Lib.hid hb
                have HBW := Lib.hid hbw
                have k1 : (k : Int) < (x.src.length : Int) := by omega
                have k24 : (x.src.length : Int) ≤ 24 := by have := HL6.out; omega
                clear hc hb hbw nb HNX
                by_cases hc0 : c = 0
                · have hc' : (c != 0) = false := by simp [hc0]
                  have HE := Lib.hid (HNXT.out hc0)
                  clear hc0
                  go_wp2_with (go_at_call 42
                               with_reducible refine HSC.out.mono ?_
                               rintro e w6 ⟨rfl, hb6⟩
                               have HB6 := Lib.hid (bl_trans HBO.out hb6)
                               clear hb6)
                  go_roundg (x.src.length - (k + 1))
                  case measure => omega
                  case rel => exact ⟨k + 1, by omega, by go_num, HE, HB6.out⟩
                · have hc' : (c != 0) = true := by simp [hc0]
                  have HE := Lib.hid (HER.out hc0)
                  clear hc0
                  go_wp2_with (go_at_call 42
                               with_reducible refine HSC.out.mono ?_
                               rintro e w6 ⟨rfl, hb6⟩
                               have HB6 := Lib.hid (bl_trans HBW.out hb6)
                               clear hb6)
                  go_ret
                  exact ⟨ret_i HE.out, HB6.out⟩
              · have hkl : ¬ (k : Int) < (x.src.length : Int) := by omega
                have HCK := Lib.hid (HCK.out.trans (if_neg (fun q => q (HT2.out.trans (srcs_end (by omega))))))
                have hgbl : gb < wo.heap.size := lt_of_heap (show wo.heap[gb]? = some (.cells B 24 (0, 0)) from nb)
                have v0 := fun n os => cell_grown hgbl (nb.cell 0 (v := .string x.id) (by rw [← HB.out]; rfl)) n os
                have LD2 := Lib.hid (show ∀ n os, Sem.run Tryd.prog (loadCellsFrom ⟨gb, 0, none⟩ 0 8 #[]) (grow (wo.drewN n) os) = .ok B (grow (wo.drewN n) os) from fun n os => (nb.step (GrB.below ⟨n, os, rfl⟩)).load HB.out)
                have HIDC := Lib.hid (show ∀ n os, Calls Tryd.prog 16 #[.agg B] (grow (wo.drewN n) os) fun e w' => e = .returned (.string (idC x)) ∧ ∃ q os', w' = grow ((grow (wo.drewN n) os).drewN q) os' from fun n os => by
                  rw [← HB.out]
                  exact IDR_any x _ _ (H.out.step (bl_trans hbw (GrB.below ⟨n, os, rfl⟩))) hd (fun s hs => by
                    obtain ⟨j, hj, rfl⟩ := List.getElem_of_mem hs
                    exact (HO.out W (SameOn.refl _ _) j hj).2.2.2.1.seq) (fun s hs => (hf s hs).step (bl_trans hbw (GrB.below ⟨n, os, rfl⟩))))
                have HBW := Lib.hid hbw
                obtain ⟨ic, hic⟩ : ∃ ic, idC x = ic := ⟨_, rfl⟩
                rw [hic] at HCK HIDC
                obtain ⟨r, hr⟩ : ∃ r, (x.id.toList == ic.toList) = r := ⟨_, rfl⟩
                have HR := Lib.hid hr
                clear hb hbw nb hgbl hic
                go_upto_region 25 with (fail)
                clear b7
                refine wp_region_quiet_grown (by kernel_rfl) (by kernel_rfl) ?_
                (iterate 2 (quiet_step (fail)))
                refine wpQuiet_step (fun K hK => ?_)
                rw [if_pos (show _ = true by kernel_rfl)]
                refine quiet_loadA (A := B) rfl Tryd.isAgg24 Tryd.sizeOf24 rfl (fun w' hw' => ?_) (hK _ ?_)
                · obtain ⟨⟨nq, osq⟩, rfl⟩ := hw'
                  exact LD2.out nq osq
                clear hK K
                quiet_step ((go_at_call 16; with_reducible exact Calls.grown_of (HIDC.out _ _)))
                quiet_step (fail)
                refine wpQuiet_nil ?_
                intro _ hw'
                obtain ⟨⟨nq, osq⟩, hw''⟩ := hw'
                subst hw''
                have HGQ := Lib.hid (show GrB wo (grow (wo.drewN nq) osq) from ⟨nq, osq, rfl⟩)
                clear v0 LD2 HIDC
                generalize grow (wo.drewN nq) osq = wq at HGQ ⊢
                clear hr
                cases r with
                | true =>
                  have HE := Lib.hid (HCK.out.trans (if_pos (by
                    have h1 := HR.out
                    rw [eq_str, decide_eq_true_eq] at h1
                    exact h1)))
                  go_wp2
                  go_ret
                  exact ⟨ret_i HE.out, bl_trans HBW.out HGQ.out.below⟩
                | false =>
                  have HE := Lib.hid (HCK.out.trans (if_neg (by
                    have h1 := HR.out
                    rw [eq_str, decide_eq_false_iff_not] at h1
                    exact h1)))
                  go_wp2
                  go_ret
                  exact ⟨ret_i HE.out, bl_trans HBW.out HGQ.out.below⟩
          · have hs' : (ns.toList == x.plt.toList) = false := by rw [eq_str]; simpa using hs0
            have hs2 : (ns.toList != x.plt.toList) = true := by rw [bne, hs']; rfl
            have HID := Lib.hid (ident3 HT.out HP.out (.inr (fun q => hs0 (HNS.out.symm.trans q))))
            have HE := Lib.hid (show checkC x l = 19 from HCK.out.trans (by rw [HID.out, if_pos (by decide)]))
            clear hs0
            go_wp2_with (first
              | (fail)
              | (go_at_call 41
                 with_reducible refine (HNR.out _).mono ?_
                 rintro e w4 ⟨rfl, hb4⟩
                 have n4 := HN2.out.step hb4
                 have b5 := n4.cell 4 (v := .string x.plt) (by rw [← HB.out]; rfl)
                 have HN4 := Lib.hid n4
                 have HB4 := Lib.hid (bl_trans HB2.out hb4)
                 clear hb4 n4))
            go_ret
            exact ⟨ret_i HE.out, HB4.out⟩
        · have hc' : (nc != 0) = true := by simp [hc0]
          have HID := Lib.hid (ident3 HT.out HP.out (.inl (fun q => hc0 (HNC.out.symm.trans q))))
          have HE := Lib.hid (show checkC x l = 19 from HCK.out.trans (by rw [HID.out, if_pos (by decide)]))
          clear hc0
          go_wp2_with (first
            | (fail)
            | (go_at_call 41
               with_reducible refine (HNR.out _).mono ?_
               rintro e w4 ⟨rfl, hb4⟩
               have n4 := HN2.out.step hb4
               have b5 := n4.cell 4 (v := .string x.plt) (by rw [← HB.out]; rfl)
               have HN4 := Lib.hid n4
               have HB4 := Lib.hid (bl_trans HB2.out hb4)
               clear hb4 n4))
          go_ret
          exact ⟨ret_i HE.out, HB4.out⟩
    · have e1 : x.tag.toList.isEmpty = false := by rw [emp_iff]; simpa using ht
      have HTE := Lib.hid ht
      clear ht
      by_cases htc0 : tc = 0
      · have htc' : (tc != 0) = false := by simp [htc0]
        have HT := Lib.hid (show x.tag = es ∨ tagE 18 x.tag = 0 from .inr (HTC.out.trans htc0))
        clear htc0
        by_cases hp : x.plt = es
        · have e2 : x.plt.toList.isEmpty = true := by rw [emp_iff]; simpa using hp
          have HCK := Lib.hid (HCK.out.trans (if_neg (fun q => q (ident4 HT.out (fun q => HTE.out q.1) (.inl hp)))))
          clear hp
          go_upto_region 13 with (first
            | (go_at_call 40
               with_reducible refine (HTG.out _).mono ?_
               rintro e w3 ⟨rfl, hb3⟩
               have HN3 := Lib.hid (HN2.out.step hb3)
               have HB3 := Lib.hid (bl_trans HB2.out hb3)
               clear hb3 b3 b4
               have b3 := HN3.out.cell 3 (v := .string x.tag) (by rw [← HB.out]; rfl)
               have b4 := HN3.out.cell 4 (v := .string x.plt) (by rw [← HB.out]; rfl))
            | (go_at_call 41
               with_reducible refine (HNR.out _).mono ?_
               rintro e w4 ⟨rfl, hb4⟩
               have n4 := HN3.out.step hb4
               have b5 := n4.cell 4 (v := .string x.plt) (by rw [← HB.out]; rfl)
               have HN4 := Lib.hid n4
               have HB4 := Lib.hid (bl_trans HB3.out hb4)
               clear hb4 n4))
          clear b3 b4 b5
          obtain ⟨sa, sn, sc, rfl⟩ : ∃ sa sn sc, vx = .slice sa sn sc := by
            obtain ⟨a, c, _, _, rfl, -⟩ := H.out
            exact ⟨_, _, _, rfl⟩
          have b0 := HN4.out.cell 0 (v := .string x.id) (by rw [← HB.out]; rfl)
          have b5 := HN4.out.cell 5 (v := .int .i64 x.cls) (by rw [← HB.out]; rfl)
          have b6 := HN4.out.cell 6 (v := .int .i64 x.sco) (by rw [← HB.out]; rfl)
          have b7 := HN4.out.cell 7 (v := .slice sa sn sc) (by rw [← HB.out]; rfl)
          have hcl : x.cls < 0 ∨ (0 ≤ x.cls ∧ 9 < x.cls) ∨ (0 ≤ x.cls ∧ x.cls ≤ 9) := by omega
          rcases hcl with t1 | ⟨t1, t2⟩ | ⟨t1, t2⟩
          · have HE := Lib.hid (HCK.out.trans (if_pos (.inl t1)))
            go_wp2
            go_ret
            exact ⟨ret_i HE.out, HB4.out⟩
          · have HE := Lib.hid (HCK.out.trans (if_pos (.inr t2)))
            go_wp2
            go_ret
            exact ⟨ret_i HE.out, HB4.out⟩
          have HCK := Lib.hid (HCK.out.trans (if_neg (by omega)))
          have hsc : x.sco < 0 ∨ (0 ≤ x.sco ∧ 1000 < x.sco) ∨ (0 ≤ x.sco ∧ x.sco ≤ 1000) := by omega
          rcases hsc with t3 | ⟨t3, t4⟩ | ⟨t3, t4⟩
          · have HE := Lib.hid (HCK.out.trans (if_pos (.inl t3)))
            go_wp2
            go_ret
            exact ⟨ret_i HE.out, HB4.out⟩
          · have HE := Lib.hid (HCK.out.trans (if_pos (.inr t4)))
            go_wp2
            go_ret
            exact ⟨ret_i HE.out, HB4.out⟩
          have HCK := Lib.hid (HCK.out.trans (if_neg (by omega)))
          obtain ⟨ao, cp, b, o, hv, q1, q2, ho⟩ := src_row H.out
          simp only [Value.slice.injEq] at hv
          obtain ⟨rfl, rfl, rfl⟩ := hv
          have HO := Lib.hid ho
          clear ho q1
          have hlen : x.src.length = 0 ∨ (x.src.length ≠ 0 ∧ 24 < x.src.length) ∨ (x.src.length ≠ 0 ∧ x.src.length ≤ 24) := by omega
          rcases hlen with t5 | ⟨t5, t6⟩ | ⟨t5, t6⟩
          · have HE := Lib.hid (HCK.out.trans (if_pos (.inl t5)))
            have f1 : (x.src.length : Int) < 1 := by omega
            clear t5
            go_wp2
            go_ret
            exact ⟨ret_i HE.out, HB4.out⟩
          · have HE := Lib.hid (HCK.out.trans (if_pos (.inr t6)))
            have f1 : ¬ (x.src.length : Int) < 1 := by omega
            have f2 : (24 : Int) < (x.src.length : Int) := by omega
            clear t5 t6
            go_wp2
            go_ret
            exact ⟨ret_i HE.out, HB4.out⟩
          have HCK := Lib.hid (HCK.out.trans (if_neg (by omega)))
          have f1 : ¬ (x.src.length : Int) < 1 := by omega
          have f2 : ¬ (24 : Int) < (x.src.length : Int) := by omega
          have HL6 := Lib.hid t6
          clear t5 t6
          go_wp2
          clear f1 f2 t1 t2 t3 t4 b0 b5 b6 b7
          go_loopg [9] x.src.length (fun gx i wr => ∃ k : Nat, k + gx = x.src.length ∧ i = .int .i64 k ∧ Hid (srcsE x.src = orL ((srcsM x.src).drop k)) ∧ Below w4.heap.size w4 wr)
          case atStart => exact ⟨0, by omega, rfl, Lib.hid rfl, Below.refl _ _⟩
          case round =>
            obtain ⟨wo, rfl⟩ : ∃ wo : World, wo = wr := ⟨_, rfl⟩
            obtain ⟨k, hk, rfl, HT2, hb⟩ := hrel
            have hbw : Below W.heap.size W wo := bl_trans HB4.out hb
            have nb := HN4.out.step hb
            have b7 := nb.cell 7 (v := .slice sa x.src.length sc) (by rw [← HB.out]; rfl)
            by_cases hlt : k < x.src.length
            · have HNX := Lib.hid (srcs_next hlt)
              have HSC := Lib.hid (srcR_any x.src (.slice sa x.src.length sc) k hlt wo (H.out.step hbw) (by have := HL6.out; omega))
              have HER := Lib.hid (show srcP x.src k x.src[k] ≠ 0 → checkC x l = srcP x.src k x.src[k] from fun h2 => by
                have e : srcsE x.src = srcP x.src k x.src[k] := by rw [HT2.out, HNX.out, if_neg h2]
                rw [HCK.out, e, if_pos h2])
              have HNXT := Lib.hid (show srcP x.src k x.src[k] = 0 → srcsE x.src = orL ((srcsM x.src).drop (k + 1)) from fun h1 => by rw [HT2.out, HNX.out, if_pos h1])
              obtain ⟨c, hc⟩ : ∃ c, srcP x.src k x.src[k] = c := ⟨_, rfl⟩
              rw [hc] at HSC HER HNXT
              have HBO := Lib.hid hb
              have HBW := Lib.hid hbw
              have k1 : (k : Int) < (x.src.length : Int) := by omega
              have k24 : (x.src.length : Int) ≤ 24 := by have := HL6.out; omega
              clear hc hb hbw nb HNX
              by_cases hc0 : c = 0
              · have hc' : (c != 0) = false := by simp [hc0]
                have HE := Lib.hid (HNXT.out hc0)
                clear hc0
                go_wp2_with (go_at_call 42
                             with_reducible refine HSC.out.mono ?_
                             rintro e w6 ⟨rfl, hb6⟩
                             have HB6 := Lib.hid (bl_trans HBO.out hb6)
                             clear hb6)
                go_roundg (x.src.length - (k + 1))
                case measure => omega
                case rel => exact ⟨k + 1, by omega, by go_num, HE, HB6.out⟩
              · have hc' : (c != 0) = true := by simp [hc0]
                have HE := Lib.hid (HER.out hc0)
                clear hc0
                go_wp2_with (go_at_call 42
                             with_reducible refine HSC.out.mono ?_
                             rintro e w6 ⟨rfl, hb6⟩
                             have HB6 := Lib.hid (bl_trans HBW.out hb6)
                             clear hb6)
                go_ret
                exact ⟨ret_i HE.out, HB6.out⟩
            · have hkl : ¬ (k : Int) < (x.src.length : Int) := by omega
              have HCK := Lib.hid (HCK.out.trans (if_neg (fun q => q (HT2.out.trans (srcs_end (by omega))))))
              have hgbl : gb < wo.heap.size := lt_of_heap (show wo.heap[gb]? = some (.cells B 24 (0, 0)) from nb)
              have v0 := fun n os => cell_grown hgbl (nb.cell 0 (v := .string x.id) (by rw [← HB.out]; rfl)) n os
              have LD2 := Lib.hid (show ∀ n os, Sem.run Tryd.prog (loadCellsFrom ⟨gb, 0, none⟩ 0 8 #[]) (grow (wo.drewN n) os) = .ok B (grow (wo.drewN n) os) from fun n os => (nb.step (GrB.below ⟨n, os, rfl⟩)).load HB.out)
              have HIDC := Lib.hid (show ∀ n os, Calls Tryd.prog 16 #[.agg B] (grow (wo.drewN n) os) fun e w' => e = .returned (.string (idC x)) ∧ ∃ q os', w' = grow ((grow (wo.drewN n) os).drewN q) os' from fun n os => by
                rw [← HB.out]
                exact IDR_any x _ _ (H.out.step (bl_trans hbw (GrB.below ⟨n, os, rfl⟩))) hd (fun s hs => by
                  obtain ⟨j, hj, rfl⟩ := List.getElem_of_mem hs
                  exact (HO.out W (SameOn.refl _ _) j hj).2.2.2.1.seq) (fun s hs => (hf s hs).step (bl_trans hbw (GrB.below ⟨n, os, rfl⟩))))
              have HBW := Lib.hid hbw
              obtain ⟨ic, hic⟩ : ∃ ic, idC x = ic := ⟨_, rfl⟩
              rw [hic] at HCK HIDC
              obtain ⟨r, hr⟩ : ∃ r, (x.id.toList == ic.toList) = r := ⟨_, rfl⟩
              have HR := Lib.hid hr
              clear hb hbw nb hgbl hic
              go_upto_region 25 with (fail)
              clear b7
              refine wp_region_quiet_grown (by kernel_rfl) (by kernel_rfl) ?_
              (iterate 2 (quiet_step (fail)))
              refine wpQuiet_step (fun K hK => ?_)
              rw [if_pos (show _ = true by kernel_rfl)]
              refine quiet_loadA (A := B) rfl Tryd.isAgg24 Tryd.sizeOf24 rfl (fun w' hw' => ?_) (hK _ ?_)
              · obtain ⟨⟨nq, osq⟩, rfl⟩ := hw'
                exact LD2.out nq osq
              clear hK K
              quiet_step ((go_at_call 16; with_reducible exact Calls.grown_of (HIDC.out _ _)))
              quiet_step (fail)
              refine wpQuiet_nil ?_
              intro _ hw'
              obtain ⟨⟨nq, osq⟩, hw''⟩ := hw'
              subst hw''
              have HGQ := Lib.hid (show GrB wo (grow (wo.drewN nq) osq) from ⟨nq, osq, rfl⟩)
              clear v0 LD2 HIDC
              generalize grow (wo.drewN nq) osq = wq at HGQ ⊢
              clear hr
              cases r with
              | true =>
                have HE := Lib.hid (HCK.out.trans (if_pos (by
                  have h1 := HR.out
                  rw [eq_str, decide_eq_true_eq] at h1
                  exact h1)))
                go_wp2
                go_ret
                exact ⟨ret_i HE.out, bl_trans HBW.out HGQ.out.below⟩
              | false =>
                have HE := Lib.hid (HCK.out.trans (if_neg (by
                  have h1 := HR.out
                  rw [eq_str, decide_eq_false_iff_not] at h1
                  exact h1)))
                go_wp2
                go_ret
                exact ⟨ret_i HE.out, bl_trans HBW.out HGQ.out.below⟩
        · have e2 : x.plt.toList.isEmpty = false := by rw [emp_iff]; simpa using hp
          have HP := Lib.hid hp
          clear hp
          by_cases hc0 : nc = 0
          · have hc' : (nc != 0) = false := by simp [hc0]
            have HC := Lib.hid (HNC.out.trans hc0)
            clear hc0
            by_cases hs0 : ns = x.plt
            · have hs' : (ns.toList == x.plt.toList) = true := by rw [eq_str]; simpa using hs0
              have hs2 : (ns.toList != x.plt.toList) = false := by rw [bne, hs']; rfl
              have HCK := Lib.hid (HCK.out.trans (if_neg (fun q => q (ident4 HT.out (fun q => HP.out q.2) (.inr ⟨HC.out, HNS.out.trans hs0⟩)))))
              clear hs0
              go_upto_region 13 with (first
                | (go_at_call 40
                   with_reducible refine (HTG.out _).mono ?_
                   rintro e w3 ⟨rfl, hb3⟩
                   have HN3 := Lib.hid (HN2.out.step hb3)
                   have HB3 := Lib.hid (bl_trans HB2.out hb3)
                   clear hb3 b3 b4
                   have b3 := HN3.out.cell 3 (v := .string x.tag) (by rw [← HB.out]; rfl)
                   have b4 := HN3.out.cell 4 (v := .string x.plt) (by rw [← HB.out]; rfl))
                | (go_at_call 41
                   with_reducible refine (HNR.out _).mono ?_
                   rintro e w4 ⟨rfl, hb4⟩
                   have n4 := HN3.out.step hb4
                   have b5 := n4.cell 4 (v := .string x.plt) (by rw [← HB.out]; rfl)
                   have HN4 := Lib.hid n4
                   have HB4 := Lib.hid (bl_trans HB3.out hb4)
                   clear hb4 n4))
              clear b3 b4 b5
              obtain ⟨sa, sn, sc, rfl⟩ : ∃ sa sn sc, vx = .slice sa sn sc := by
                obtain ⟨a, c, _, _, rfl, -⟩ := H.out
                exact ⟨_, _, _, rfl⟩
              have b0 := HN4.out.cell 0 (v := .string x.id) (by rw [← HB.out]; rfl)
              have b5 := HN4.out.cell 5 (v := .int .i64 x.cls) (by rw [← HB.out]; rfl)
              have b6 := HN4.out.cell 6 (v := .int .i64 x.sco) (by rw [← HB.out]; rfl)
              have b7 := HN4.out.cell 7 (v := .slice sa sn sc) (by rw [← HB.out]; rfl)
              have hcl : x.cls < 0 ∨ (0 ≤ x.cls ∧ 9 < x.cls) ∨ (0 ≤ x.cls ∧ x.cls ≤ 9) := by omega
              rcases hcl with t1 | ⟨t1, t2⟩ | ⟨t1, t2⟩
              · have HE := Lib.hid (HCK.out.trans (if_pos (.inl t1)))
                go_wp2
                go_ret
                exact ⟨ret_i HE.out, HB4.out⟩
              · have HE := Lib.hid (HCK.out.trans (if_pos (.inr t2)))
                go_wp2
                go_ret
                exact ⟨ret_i HE.out, HB4.out⟩
              have HCK := Lib.hid (HCK.out.trans (if_neg (by omega)))
              have hsc : x.sco < 0 ∨ (0 ≤ x.sco ∧ 1000 < x.sco) ∨ (0 ≤ x.sco ∧ x.sco ≤ 1000) := by omega
              rcases hsc with t3 | ⟨t3, t4⟩ | ⟨t3, t4⟩
              · have HE := Lib.hid (HCK.out.trans (if_pos (.inl t3)))
                go_wp2
                go_ret
                exact ⟨ret_i HE.out, HB4.out⟩
              · have HE := Lib.hid (HCK.out.trans (if_pos (.inr t4)))
                go_wp2
                go_ret
                exact ⟨ret_i HE.out, HB4.out⟩
              have HCK := Lib.hid (HCK.out.trans (if_neg (by omega)))
              obtain ⟨ao, cp, b, o, hv, q1, q2, ho⟩ := src_row H.out
              simp only [Value.slice.injEq] at hv
              obtain ⟨rfl, rfl, rfl⟩ := hv
              have HO := Lib.hid ho
              clear ho q1
              have hlen : x.src.length = 0 ∨ (x.src.length ≠ 0 ∧ 24 < x.src.length) ∨ (x.src.length ≠ 0 ∧ x.src.length ≤ 24) := by omega
              rcases hlen with t5 | ⟨t5, t6⟩ | ⟨t5, t6⟩
              · have HE := Lib.hid (HCK.out.trans (if_pos (.inl t5)))
                have f1 : (x.src.length : Int) < 1 := by omega
                clear t5
                go_wp2
                go_ret
                exact ⟨ret_i HE.out, HB4.out⟩
              · have HE := Lib.hid (HCK.out.trans (if_pos (.inr t6)))
                have f1 : ¬ (x.src.length : Int) < 1 := by omega
                have f2 : (24 : Int) < (x.src.length : Int) := by omega
                clear t5 t6
                go_wp2
                go_ret
                exact ⟨ret_i HE.out, HB4.out⟩
              have HCK := Lib.hid (HCK.out.trans (if_neg (by omega)))
              have f1 : ¬ (x.src.length : Int) < 1 := by omega
              have f2 : ¬ (24 : Int) < (x.src.length : Int) := by omega
              have HL6 := Lib.hid t6
              clear t5 t6
              go_wp2
              clear f1 f2 t1 t2 t3 t4 b0 b5 b6 b7
              go_loopg [9] x.src.length (fun gx i wr => ∃ k : Nat, k + gx = x.src.length ∧ i = .int .i64 k ∧ Hid (srcsE x.src = orL ((srcsM x.src).drop k)) ∧ Below w4.heap.size w4 wr)
              case atStart => exact ⟨0, by omega, rfl, Lib.hid rfl, Below.refl _ _⟩
              case round =>
                obtain ⟨wo, rfl⟩ : ∃ wo : World, wo = wr := ⟨_, rfl⟩
                obtain ⟨k, hk, rfl, HT2, hb⟩ := hrel
                have hbw : Below W.heap.size W wo := bl_trans HB4.out hb
                have nb := HN4.out.step hb
                have b7 := nb.cell 7 (v := .slice sa x.src.length sc) (by rw [← HB.out]; rfl)
                by_cases hlt : k < x.src.length
                · have HNX := Lib.hid (srcs_next hlt)
                  have HSC := Lib.hid (srcR_any x.src (.slice sa x.src.length sc) k hlt wo (H.out.step hbw) (by have := HL6.out; omega))
                  have HER := Lib.hid (show srcP x.src k x.src[k] ≠ 0 → checkC x l = srcP x.src k x.src[k] from fun h2 => by
                    have e : srcsE x.src = srcP x.src k x.src[k] := by rw [HT2.out, HNX.out, if_neg h2]
                    rw [HCK.out, e, if_pos h2])
                  have HNXT := Lib.hid (show srcP x.src k x.src[k] = 0 → srcsE x.src = orL ((srcsM x.src).drop (k + 1)) from fun h1 => by rw [HT2.out, HNX.out, if_pos h1])
                  obtain ⟨c, hc⟩ : ∃ c, srcP x.src k x.src[k] = c := ⟨_, rfl⟩
                  rw [hc] at HSC HER HNXT
                  have HBO := Lib.hid hb
                  have HBW := Lib.hid hbw
                  have k1 : (k : Int) < (x.src.length : Int) := by omega
                  have k24 : (x.src.length : Int) ≤ 24 := by have := HL6.out; omega
                  clear hc hb hbw nb HNX
                  by_cases hc0 : c = 0
                  · have hc' : (c != 0) = false := by simp [hc0]
                    have HE := Lib.hid (HNXT.out hc0)
                    clear hc0
                    go_wp2_with (go_at_call 42
                                 with_reducible refine HSC.out.mono ?_
                                 rintro e w6 ⟨rfl, hb6⟩
                                 have HB6 := Lib.hid (bl_trans HBO.out hb6)
                                 clear hb6)
                    go_roundg (x.src.length - (k + 1))
                    case measure => omega
                    case rel => exact ⟨k + 1, by omega, by go_num, HE, HB6.out⟩
                  · have hc' : (c != 0) = true := by simp [hc0]
                    have HE := Lib.hid (HER.out hc0)
                    clear hc0
                    go_wp2_with (go_at_call 42
                                 with_reducible refine HSC.out.mono ?_
                                 rintro e w6 ⟨rfl, hb6⟩
                                 have HB6 := Lib.hid (bl_trans HBW.out hb6)
                                 clear hb6)
                    go_ret
                    exact ⟨ret_i HE.out, HB6.out⟩
                · have hkl : ¬ (k : Int) < (x.src.length : Int) := by omega
                  have HCK := Lib.hid (HCK.out.trans (if_neg (fun q => q (HT2.out.trans (srcs_end (by omega))))))
                  have hgbl : gb < wo.heap.size := lt_of_heap (show wo.heap[gb]? = some (.cells B 24 (0, 0)) from nb)
                  have v0 := fun n os => cell_grown hgbl (nb.cell 0 (v := .string x.id) (by rw [← HB.out]; rfl)) n os
                  have LD2 := Lib.hid (show ∀ n os, Sem.run Tryd.prog (loadCellsFrom ⟨gb, 0, none⟩ 0 8 #[]) (grow (wo.drewN n) os) = .ok B (grow (wo.drewN n) os) from fun n os => (nb.step (GrB.below ⟨n, os, rfl⟩)).load HB.out)
                  have HIDC := Lib.hid (show ∀ n os, Calls Tryd.prog 16 #[.agg B] (grow (wo.drewN n) os) fun e w' => e = .returned (.string (idC x)) ∧ ∃ q os', w' = grow ((grow (wo.drewN n) os).drewN q) os' from fun n os => by
                    rw [← HB.out]
                    exact IDR_any x _ _ (H.out.step (bl_trans hbw (GrB.below ⟨n, os, rfl⟩))) hd (fun s hs => by
                      obtain ⟨j, hj, rfl⟩ := List.getElem_of_mem hs
                      exact (HO.out W (SameOn.refl _ _) j hj).2.2.2.1.seq) (fun s hs => (hf s hs).step (bl_trans hbw (GrB.below ⟨n, os, rfl⟩))))
                  have HBW := Lib.hid hbw
                  obtain ⟨ic, hic⟩ : ∃ ic, idC x = ic := ⟨_, rfl⟩
                  rw [hic] at HCK HIDC
                  obtain ⟨r, hr⟩ : ∃ r, (x.id.toList == ic.toList) = r := ⟨_, rfl⟩
                  have HR := Lib.hid hr
                  clear hb hbw nb hgbl hic
                  go_upto_region 25 with (fail)
                  clear b7
                  refine wp_region_quiet_grown (by kernel_rfl) (by kernel_rfl) ?_
                  (iterate 2 (quiet_step (fail)))
                  refine wpQuiet_step (fun K hK => ?_)
                  rw [if_pos (show _ = true by kernel_rfl)]
                  refine quiet_loadA (A := B) rfl Tryd.isAgg24 Tryd.sizeOf24 rfl (fun w' hw' => ?_) (hK _ ?_)
                  · obtain ⟨⟨nq, osq⟩, rfl⟩ := hw'
                    exact LD2.out nq osq
                  clear hK K
                  quiet_step ((go_at_call 16; with_reducible exact Calls.grown_of (HIDC.out _ _)))
                  quiet_step (fail)
                  refine wpQuiet_nil ?_
                  intro _ hw'
                  obtain ⟨⟨nq, osq⟩, hw''⟩ := hw'
                  subst hw''
                  have HGQ := Lib.hid (show GrB wo (grow (wo.drewN nq) osq) from ⟨nq, osq, rfl⟩)
                  clear v0 LD2 HIDC
                  generalize grow (wo.drewN nq) osq = wq at HGQ ⊢
                  clear hr
                  cases r with
                  | true =>
                    have HE := Lib.hid (HCK.out.trans (if_pos (by
                      have h1 := HR.out
                      rw [eq_str, decide_eq_true_eq] at h1
                      exact h1)))
                    go_wp2
                    go_ret
                    exact ⟨ret_i HE.out, bl_trans HBW.out HGQ.out.below⟩
                  | false =>
                    have HE := Lib.hid (HCK.out.trans (if_neg (by
                      have h1 := HR.out
                      rw [eq_str, decide_eq_false_iff_not] at h1
                      exact h1)))
                    go_wp2
                    go_ret
                    exact ⟨ret_i HE.out, bl_trans HBW.out HGQ.out.below⟩
            · have hs' : (ns.toList == x.plt.toList) = false := by rw [eq_str]; simpa using hs0
              have hs2 : (ns.toList != x.plt.toList) = true := by rw [bne, hs']; rfl
              have HID := Lib.hid (ident3 HT.out HP.out (.inr (fun q => hs0 (HNS.out.symm.trans q))))
              have HE := Lib.hid (show checkC x l = 19 from HCK.out.trans (by rw [HID.out, if_pos (by decide)]))
              clear hs0
              go_wp2_with (first
                | (go_at_call 40
                   with_reducible refine (HTG.out _).mono ?_
                   rintro e w3 ⟨rfl, hb3⟩
                   have HN3 := Lib.hid (HN2.out.step hb3)
                   have HB3 := Lib.hid (bl_trans HB2.out hb3)
                   clear hb3 b3 b4
                   have b3 := HN3.out.cell 3 (v := .string x.tag) (by rw [← HB.out]; rfl)
                   have b4 := HN3.out.cell 4 (v := .string x.plt) (by rw [← HB.out]; rfl))
                | (go_at_call 41
                   with_reducible refine (HNR.out _).mono ?_
                   rintro e w4 ⟨rfl, hb4⟩
                   have n4 := HN3.out.step hb4
                   have b5 := n4.cell 4 (v := .string x.plt) (by rw [← HB.out]; rfl)
                   have HN4 := Lib.hid n4
                   have HB4 := Lib.hid (bl_trans HB3.out hb4)
                   clear hb4 n4))
              go_ret
              exact ⟨ret_i HE.out, HB4.out⟩
          · have hc' : (nc != 0) = true := by simp [hc0]
            have HID := Lib.hid (ident3 HT.out HP.out (.inl (fun q => hc0 (HNC.out.symm.trans q))))
            have HE := Lib.hid (show checkC x l = 19 from HCK.out.trans (by rw [HID.out, if_pos (by decide)]))
            clear hc0
            go_wp2_with (first
              | (go_at_call 40
                 with_reducible refine (HTG.out _).mono ?_
                 rintro e w3 ⟨rfl, hb3⟩
                 have HN3 := Lib.hid (HN2.out.step hb3)
                 have HB3 := Lib.hid (bl_trans HB2.out hb3)
                 clear hb3 b3 b4
                 have b3 := HN3.out.cell 3 (v := .string x.tag) (by rw [← HB.out]; rfl)
                 have b4 := HN3.out.cell 4 (v := .string x.plt) (by rw [← HB.out]; rfl))
              | (go_at_call 41
                 with_reducible refine (HNR.out _).mono ?_
                 rintro e w4 ⟨rfl, hb4⟩
                 have n4 := HN3.out.step hb4
                 have b5 := n4.cell 4 (v := .string x.plt) (by rw [← HB.out]; rfl)
                 have HN4 := Lib.hid n4
                 have HB4 := Lib.hid (bl_trans HB3.out hb4)
                 clear hb4 n4))
            go_ret
            exact ⟨ret_i HE.out, HB4.out⟩
      · have htc' : (tc != 0) = true := by simp [htc0]
        have HE := Lib.hid (show checkC x l = tc from HCK.out.trans (by rw [ident2 HTE.out (by rw [HTC.out]; exact htc0), HTC.out, if_pos htc0]))
        clear htc0
        go_wp2_with (first
          | (go_at_call 40
             first
             | (with_reducible refine (HTG.out _).mono ?_
                rintro e w4 ⟨rfl, hb4⟩
                have HB4 := Lib.hid (bl_trans HB3.out hb4)
                clear hb4)
             | (with_reducible refine (HTG.out _).mono ?_
                rintro e w5 ⟨rfl, hb3⟩
                have HN3 := Lib.hid (HN2.out.step hb3)
                have HB3 := Lib.hid (bl_trans HB2.out hb3)
                clear hb3 b3 b4
                have b3 := HN3.out.cell 3 (v := .string x.tag) (by rw [← HB.out]; rfl))))
        go_ret
        exact ⟨ret_i HE.out, HB4.out⟩
end Go.Proofs.YtbjhemglecllmaaDoor
