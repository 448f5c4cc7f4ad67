/-
  Layer 17 (passage): the reference's source, IsTime; Check of the reference, in parts.
-/
import Derived.Test.YtbjhemglecllmaaDoorPsCk
namespace Go.Tw.Ps
open Go.RowKit Go.Tw Go.Sort Go.Tw.Ord Go.Tw.Plate
theorem nrm_R (s : ByteArray) : normS (normGoR [] (codes s)) = nrm s := by
  unfold nrm
  rw [norm_eq _ _ (by simp)]
end Go.Tw.Ps
namespace Go.Proofs.YtbjhemglecllmaaDoor
open Go.RowKit Go.Tw Go.Tw.Ord Go.Tw.Ps Go.Sort Go.Tw.Plate
def timeOk (t : Int) : Bool := decide (0 ≤ t) && decide (t < 68719476736)
set_option maxHeartbeats 400000 in
theorem IsTime_any (t : Int) (w : World) : Calls Tryd.prog 39 #[.int .i64 t] w fun e w' => e = .returned (.bool (timeOk t)) ∧ w' = w := by
  obtain ⟨c, hc⟩ : ∃ c, timeOk t = c := ⟨_, rfl⟩
  have HC := Lib.hid hc
  rw [hc]
  clear hc
  by_cases h1 : 0 ≤ t
  · by_cases h2 : t < 68719476736
    · obtain rfl : c = true := by rw [← HC.out]; simp [timeOk, h1, h2]
      go_enter Tryd.func39, Tryd.ntmps39
      go_wp2
      go_ret
      exact ⟨rfl, rfl⟩
    · obtain rfl : c = false := by rw [← HC.out]; simp [timeOk, h2]
      go_enter Tryd.func39, Tryd.ntmps39
      go_wp2
      go_ret
      exact ⟨rfl, rfl⟩
  · obtain rfl : c = false := by rw [← HC.out]; simp [timeOk, h1]
    go_enter Tryd.func39, Tryd.ntmps39
    go_wp2
    go_ret
    exact ⟨rfl, rfl⟩
set_option maxRecDepth 100000 in
set_option maxHeartbeats 2000000 in
theorem srcR_any (l : List Src) (vl : Value) (i : Nat) (hi : i < l.length) (w : World) (h : SlIs tSrc (· < w.heap.size) w vl l) (hl : l.length ≤ 1000) : Calls Tryd.prog 42 #[vl, .int .i64 i] w fun e w' => e = .returned (.int .i64 (srcP l i l[i])) ∧ Below w.heap.size w w' := by
  obtain ⟨ao, cp, b, o, rfl, q1, q2, ho⟩ := src_row h
  obtain ⟨rfl, -, hbk, hok, c0, c1⟩ := ho w (SameOn.refl _ _) i hi
  have HO := Lib.hid ho
  have HPRV := Lib.hid (show ∀ m, m + 1 = i → ∃ y, l[m]? = some y ∧ SrcOk y ∧ w.cell? ⟨b, o + m * 2, none⟩ = some (.string y.dev) ∧ w.cell? ⟨b, o + m * 2 + 1, none⟩ = some (.int .i64 y.seq) from fun m hm => by
    obtain ⟨-, -, -, ok, e0, e1⟩ := HO.out w (SameOn.refl _ _) m (by omega)
    exact ⟨_, List.getElem?_eq_getElem (by omega), ok, e0, e1⟩)
  generalize l[i] = s at c0 c1 hok
  have HN1 := nameR_hid s.dev
  obtain ⟨nb1, hn1⟩ : ∃ c, nameC s.dev = c := ⟨_, rfl⟩
  rw [hn1] at HN1
  have HNE := Lib.hid hn1
  have k0 : (0 : Int) ≤ (i : Int) := by omega
  have k1 : (i : Int) < (l.length : Int) := by omega
  have k2 : (l.length : Int) ≤ 1000 := by omega
  unfold maxLen at q2
  clear ho h hn1 hl hi
  cases nb1 with
  | false =>
    have HE := Lib.hid (srcP_name (l := l) (k := i) HNE.out)
    go_enter Tryd.func42, Tryd.ntmps42
    go_wp2_with (go_at_call 68
                 with_reducible refine (HN1.out _).mono ?_
                 rintro e w4 ⟨rfl, hb4⟩
                 have d0 := (hb4.cell (p := ⟨b, o + i * 2, none⟩) hbk).trans c0
                 have d1 := (hb4.cell (p := ⟨b, o + i * 2 + 1, none⟩) hbk).trans c1
                 have BL4 := Lib.hid hb4
                 clear hb4)
    go_ret
    exact ⟨ret_i HE.out, BL4.out⟩
  | true =>
    have hsq : s.seq < 0 ∨ (0 ≤ s.seq ∧ 2147483648 < s.seq) ∨ (0 ≤ s.seq ∧ s.seq ≤ 2147483648) := by omega
    rcases hsq with t1 | ⟨t1, t2⟩ | ⟨t1, t2⟩
    · have HE := Lib.hid (srcP_seq (l := l) (k := i) HNE.out (.inl t1))
      go_enter Tryd.func42, Tryd.ntmps42
      go_wp2_with (go_at_call 68
                   with_reducible refine (HN1.out _).mono ?_
                   rintro e w4 ⟨rfl, hb4⟩
                   have d0 := (hb4.cell (p := ⟨b, o + i * 2, none⟩) hbk).trans c0
                   have d1 := (hb4.cell (p := ⟨b, o + i * 2 + 1, none⟩) hbk).trans c1
                   have BL4 := Lib.hid hb4
                   clear hb4)
      go_ret
      exact ⟨ret_i HE.out, BL4.out⟩
    · have HE := Lib.hid (srcP_seq (l := l) (k := i) HNE.out (.inr t2))
      go_enter Tryd.func42, Tryd.ntmps42
      go_wp2_with (go_at_call 68
                   with_reducible refine (HN1.out _).mono ?_
                   rintro e w4 ⟨rfl, hb4⟩
                   have d0 := (hb4.cell (p := ⟨b, o + i * 2, none⟩) hbk).trans c0
                   have d1 := (hb4.cell (p := ⟨b, o + i * 2 + 1, none⟩) hbk).trans c1
                   have BL4 := Lib.hid hb4
                   clear hb4)
      go_ret
      exact ⟨ret_i HE.out, BL4.out⟩
    · have HSQ := Lib.hid (show ¬ (s.seq < 0 ∨ 2147483648 < s.seq) by omega)
      go_enter Tryd.func42, Tryd.ntmps42
      go_upto_region 5 with (go_at_call 68
                             with_reducible refine (HN1.out _).mono ?_
                             rintro e w4 ⟨rfl, hb4⟩
                             have d0 := (hb4.cell (p := ⟨b, o + i * 2, none⟩) hbk).trans c0
                             have d1 := (hb4.cell (p := ⟨b, o + i * 2 + 1, none⟩) hbk).trans c1
                             have BL4 := Lib.hid hb4
                             clear hb4)
      clear t1 t2
      have hbk4 : b < w4.heap.size := Nat.lt_of_lt_of_le hbk BL4.out.size
      have v2 := fun n os => cell_grown hbk4 d0 n os
      have v3 := fun n os => cell_grown hbk4 d1 n os
      rcases Nat.eq_zero_or_pos i with hk0 | hk0
      · have kz : decide (0 < i) = false := by rw [decide_eq_false_iff_not]; omega
        have HE := Lib.hid (show srcP l i s = 0 from by rw [hk0]; exact srcP_zero HNE.out HSQ.out)
        clear hk0 c0 c1 d0 d1
        refine QW.regionG (by kernel_rfl) (by kernel_rfl) ?_
        (iterate 3 (refine QW.yes (by kernel_rfl) (fun K hK => ?_)
                    go_simp
                    (with_reducible refine hK _ ?_)
                    clear hK K))
        (iterate 11 (refine QW.no (by kernel_rfl) ?_
                     (try simp only [Act.put])
                     (try simp only [List.setIfInBounds_toArray])
                     (repeat (first | simp only [List.set_cons_succ] | simp only [List.set_cons_zero]))))
        (refine QW.yes (by kernel_rfl) (fun K hK => ?_)
         go_simp
         (with_reducible refine hK _ ?_)
         clear hK K)
        refine QW.nil ?_
        intro _ hw'
        obtain ⟨⟨nq, osq⟩, hw''⟩ := hw'
        subst hw''
        have HGQ := Lib.hid (show GrB w4 (grow (w4.drewN nq) osq) from ⟨nq, osq, rfl⟩)
        clear v2 v3
        generalize grow (w4.drewN nq) osq = wq at HGQ ⊢
        go_wp2
        go_ret
        exact ⟨ret_i HE.out, bl_trans BL4.out HGQ.out.below⟩
      · obtain ⟨m, hm⟩ : ∃ m, m + 1 = i := ⟨i - 1, by omega⟩
        obtain ⟨y, hy, hyo, y0, y1⟩ := HPRV.out m hm
        have hw1 : IntKind.i64.wrap ((i : Int) - 1) = (m : Int) := by rw [wrap_in (by omega) (by omega)]; omega
        have HPS := Lib.hid (srcP_succ hm hy HNE.out HSQ.out)
        have kz' : 0 < i := by omega
        have m0 : (0 : Int) ≤ (m : Int) := by omega
        have m1 : (m : Int) < (l.length : Int) := by omega
        have z0 := (BL4.out.cell (p := ⟨b, o + m * 2, none⟩) hbk).trans y0
        have z1 := (BL4.out.cell (p := ⟨b, o + m * 2 + 1, none⟩) hbk).trans y1
        have v0 := fun n os => cell_grown hbk4 z0 n os
        have v1 := fun n os => cell_grown hbk4 z1 n os
        have HSR := Lib.hid (fun (w : World) => sourcesR_any y s w hyo hok)
        simp only [srcCells] at HSR
        obtain ⟨d, hd⟩ : ∃ d, srcC y s = d := ⟨_, rfl⟩
        rw [hd] at HSR HPS
        clear hd hy y0 y1 z0 z1 hm hk0 c0 c1 d0 d1 HPRV
        refine QW.regionG (by kernel_rfl) (by kernel_rfl) ?_
        (iterate 12 (refine QW.yes (by kernel_rfl) (fun K hK => ?_)
                     go_simp
                     (with_reducible refine hK _ ?_)
                     clear hK K))
        (refine QW.yes (by kernel_rfl) (fun K hK => ?_)
         go_simp
         apply Exists.intro
         refine ⟨fun _ => ?_, hK _ ?_⟩
         (go_at_call 69; with_reducible exact Calls.grown_of (HSR.out _))
         clear hK K)
        by_cases hd0 : 0 ≤ d
        · have HE := Lib.hid (show srcP l i s = 15 from HPS.out.trans (if_pos hd0))
          (iterate 2 (refine QW.yes (by kernel_rfl) (fun K hK => ?_)
                      go_simp
                      (with_reducible refine hK _ ?_)
                      clear hK K))
          refine QW.nil ?_
          intro _ hw'
          obtain ⟨⟨nq, osq⟩, hw''⟩ := hw'
          subst hw''
          have HGQ := Lib.hid (show GrB w4 (grow (w4.drewN nq) osq) from ⟨nq, osq, rfl⟩)
          clear v0 v1 v2 v3
          generalize grow (w4.drewN nq) osq = wq at HGQ ⊢
          go_wp2
          go_ret
          exact ⟨ret_i HE.out, bl_trans BL4.out HGQ.out.below⟩
        · have HE := Lib.hid (show srcP l i s = 0 from HPS.out.trans (if_neg hd0))
          (iterate 2 (refine QW.yes (by kernel_rfl) (fun K hK => ?_)
                      go_simp
                      (with_reducible refine hK _ ?_)
                      clear hK K))
          refine QW.nil ?_
          intro _ hw'
          obtain ⟨⟨nq, osq⟩, hw''⟩ := hw'
          subst hw''
          have HGQ := Lib.hid (show GrB w4 (grow (w4.drewN nq) osq) from ⟨nq, osq, rfl⟩)
          clear v0 v1 v2 v3
          generalize grow (w4.drewN nq) osq = wq at HGQ ⊢
          go_wp2
          go_ret
          exact ⟨ret_i HE.out, bl_trans BL4.out HGQ.out.below⟩
end Go.Proofs.YtbjhemglecllmaaDoor
