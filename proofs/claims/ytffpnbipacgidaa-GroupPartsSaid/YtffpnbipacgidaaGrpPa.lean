/-
  Layer 14 (group): the law GroupParts.
-/
import Derived.Test.YtffpnbipacgidaaGrpAp
import Derived.Test.YtffpnbipacgidaaGrpR2
namespace Go.Proofs.Ytffpnbipacgidaa
open Go.RowKit Go.Tw Go.Tw.Ord Go.Tw.Grp Go.Sort Go.ChangeShapes Go.WideShapes
theorem cntS_perm {l m : List Seen} (h : l.Perm m) (s : Seen) : cntS l s = cntS m s := (h.filter _).length_eq
theorem gr_of {w wr : World} {S : Nat → Prop} (h : GrB w wr) : SameOn (· < w.heap.size) w wr := .of_below h.below
set_option maxRecDepth 100000 in
set_option maxHeartbeats 8000000 in
theorem parts_walk : LawWalk Try.prog 5 Try.f5 := by
  intro H enc W base args ds ps hval hA hsz
  rw [Try.params5] at hA hval
  obtain ⟨v0, v1, d0, d1, p0, p1, rfl, rfl, rfl, h0, h1⟩ := trodAll_two hA
  obtain ⟨l, hl⟩ := arg_slice Try.underlying22 (opensSeens (e := 31)) (hval 0 _ _ rfl rfl) h0
  obtain ⟨g, rfl, hg⟩ := arg_int Try.underlying3 (hval 1 _ _ rfl rfl) h1
  clear hA hval h0 h1 hsz
  obtain ⟨ao, cp, b, o, rfl, q1, q2, ho⟩ := seen_row hl
  unfold maxLen at q2
  have HO := Lib.hid ho
  have HLL := Lib.hid hl
  have HG := Lib.hid hg
  clear ho hl hg
  go_enter Try.func5, Try.ntmps5
  by_cases hmost : (l.length : Int) > 40
  · go_wp2_with (fail)
    go_ret
    exact ⟨rfl, Below.refl _ _⟩
  by_cases hgn : g < 0
  · go_wp2_with (fail)
    go_ret
    exact ⟨rfl, Below.refl _ _⟩
  have HL40 := Lib.hid (show l.length ≤ 40 by omega)
  have HGP := Lib.hid (show 0 ≤ g by omega)
  go_wp2_with (fail)
  go_loopg [5] l.length (fun gx i wr => ∃ k : Nat, k + gx = l.length ∧ i = .int .i64 k ∧ Hid (∀ j (h : j < l.length), j < k → 0 ≤ l[j].tm) ∧ W = wr)
  case atStart => exact ⟨0, by omega, rfl, Lib.hid (fun j _ h => by omega), rfl⟩
  case round =>
    obtain ⟨k, hk, rfl, HT, rfl⟩ := hrel
    by_cases hlt : k < l.length
    · obtain ⟨rfl, -, hbk, hok, hc⟩ := HO.out _ (SameOn.refl _ _) k hlt
      have k0 : (0 : Int) ≤ (k : Int) := by omega
      have k1 : (k : Int) < (l.length : Int) := by omega
      have c7 := hc 7 (by decide)
      rw [show (sCells l[k])[7]? = some (.int .i64 l[k].tm) from rfl] at c7
      obtain ⟨t, ht⟩ : ∃ t, l[k].tm = t := ⟨_, rfl⟩
      have HTT := Lib.hid ht
      rw [ht] at c7
      clear hc hok ht
      by_cases ht0 : t < 0
      · go_wp2_with (fail)
        go_ret
        exact ⟨rfl, Below.refl _ _⟩
      · have ht1 : decide (t < 0) = false := by simpa using ht0
        go_wp2_with (fail)
        go_roundg (l.length - (k + 1))
        case measure => omega
        case rel => exact ⟨k + 1, by omega, by go_num, Lib.hid (fun j h h' => by
          by_cases e : j = k
          · subst e; rw [HTT.out]; omega
          · exact HT.out j h (by omega)), rfl⟩
    · have hkl : ¬ (k : Int) < (l.length : Int) := by omega
      have HTL := Lib.hid (show ∀ s ∈ l, 0 ≤ s.tm from fun s hs => by
        obtain ⟨j, hj, rfl⟩ := List.getElem_of_mem hs
        exact HT.out j hj (by omega))
      clear HT
      obtain ⟨R, hR⟩ : ∃ R, framesC g l = R := ⟨_, rfl⟩
      have HFR := Lib.hid (fun (w : World) (h : SlIs tSeen (· < w.heap.size) w (.slice ao l.length cp) l) => Frames_any l g _ w h (by have := HL40.out; omega) HG.out)
      have HPT := Lib.hid (framesC_parts HGP.out l)
      have HPM := Lib.hid (framesC_perm g l)
      rw [hR] at HFR HPT HPM
      have HRT := Lib.hid (show ∀ f ∈ R, ∀ s ∈ f, 0 ≤ s.tm from fun f hf s hs => HTL.out s (HPM.out.mem_iff.1 (List.mem_flatten.2 ⟨f, hf, hs⟩)))
      have HRL := Lib.hid (show R.flatten.length ≤ 40 from by have := HPM.out.length_eq; have := HL40.out; omega)
      clear hR
      go_wp2_with (go_at_call 11
                   refine (HFR.out _ HLL.out).mono ?_
                   rintro e w1 ⟨⟨v1, rfl, hn1⟩, hb1⟩
                   have hrl1 := hn1.sl'
                   obtain ⟨ar, cr, br, orr, rfl, r1, r2, hro⟩ := frm_row hrl1
                   unfold maxLen at r2
                   have HB1 := Lib.hid hb1
                   have HRO := Lib.hid hro
                   clear hn1 hb1 hrl1 hro)
      go_loopg [7, 8] R.length (fun gx t i wr => ∃ k : Nat, k + gx = R.length ∧ i = .int .i64 k ∧ OwnSl tSeen 31 w1.heap.size wr t (R.take k).flatten ∧ Below w1.heap.size w1 wr)
      case atStart => exact ⟨0, by omega, rfl, by simpa using OwnSl.nil _ _ _ _, Below.refl _ _⟩
      case round =>
        obtain ⟨wo, rfl⟩ : ∃ wo : World, wo = wr := ⟨_, rfl⟩
        obtain ⟨i, hi, rfl, hown, hb⟩ := hrel
        have HOW := Lib.hid hown
        have HB := Lib.hid hb
        have HLX := Lib.hid hown.own_lt
        by_cases hil : i < R.length
        · obtain ⟨rfl, -, hbk, hv, hc, hs⟩ := HRO.out wo (.of_below hb) i hil
          have i0 : (0 : Int) ≤ (i : Int) := by omega
          have i1 : (i : Int) < (R.length : Int) := by omega
          have HFT := Lib.hid (flat_take hil)
          have HFL := Lib.hid (flat_le R (i + 1))
          have hmem : R[i] ∈ R := List.getElem_mem hil
          have HNE := Lib.hid (HPT.out.ne _ hmem)
          have HPP := Lib.hid (HPT.out.pt _ hmem)
          have HAS := Lib.hid (HPT.out.asc _ hmem)
          have HSE := Lib.hid (fun j (hj : j < R.length) (h : j < i) => HPT.out.sep i j hil hj h)
          have HTF := Lib.hid (HRT.out _ hmem)
          clear hmem
          generalize R[i] = f at hc hs HFT HNE HPP HAS HSE HTF
          have hfp : 0 < f.length := List.length_pos_iff.2 HNE.out
          have hf0 : ((f.length : Int) == 0) = false := by rw [beq_eq_false_iff_ne]; omega
          obtain ⟨af, cf, bf, of, rfl, f1, f2, hfo⟩ := seen_row hs
          unfold maxLen at f2
          have HS := Lib.hid hs
          have HFO := Lib.hid hfo
          have HC := Lib.hid hc
          have hbr := hbk
          generalize (R.take i).flatten = T at hown HOW HFT
          obtain ⟨av, cv, rfl, hv1, hv2⟩ := hown.form
          clear hown hb hs hfo hbk
          have hln : T.length + f.length ≤ 1000 := by have := HFL.out; have := HRL.out; rw [HFT.out, List.length_append] at *; omega
          have HLN := Lib.hid hln
          clear hln
          go_upto_region 14 with (
            at_builtin
            have hbs := HB.out.size
            refine wpList_append_sl (.tmp 40) (.tmp 44) rfl 22 rfl slSeen rfl HOW.out rfl HS.out (fun k (hk : k < w1.heap.size) => ⟨by omega, fun e => by have := (HLX.out k e.symm).1; omega⟩) (small_bytes (k := 1001) (by have := HLN.out; omega) (by decide)) (by have := HLN.out; unfold maxLen; omega) (by omega) ?_
            intro v7 w7 ho7 hg7 hr7
            have HO7 := Lib.hid ho7
            have HBO := Lib.hid (Below.of_grown hg7 hbs (fun k' hk' => (HLX.out k' hk').1))
            have HB7 := Lib.hid (HB.out.trans HBO.out)
            have d7 := (HBO.out.cell (p := ⟨br, orr + i, none⟩) hbr).trans hc
            obtain ⟨a7, c7, rfl, -⟩ := HO7.out.form
            clear ho7 hg7 hr7 hbs hc)
          have HD7 := Lib.hid (show w7.cell? ⟨br, orr + i, none⟩ = some (.slice af f.length cf) from d7)
          have HZ7 := Lib.hid (show w1.heap.size ≤ w7.heap.size from HB7.out.size)
          go_wp2_with (fail)
          go_loopg [9] (f.length - 1) (fun gx i wr => ∃ (m q : Nat), m + gx = f.length - 1 ∧ i = .int .i64 q ∧ Hid (q = m + 1) ∧ GrB w7 wr)
          case atStart => exact ⟨0, 1, by omega, rfl, Lib.hid rfl, GrB.refl _⟩
          case round =>
            obtain ⟨wi, rfl⟩ : ∃ wi : World, wi = wr := ⟨_, rfl⟩
            obtain ⟨m, q, hm, rfl, HQ, hg⟩ := hrel
            have HGI := Lib.hid hg
            have hbw : br < wi.heap.size := by have := HZ7.out; have := HGI.out.below.size; omega
            have dd := (HGI.out.below.cell (p := ⟨br, orr + i, none⟩) (by have := HZ7.out; show br < w7.heap.size; omega)).trans HD7.out
            have hqm : m < q := by have := HQ.out; omega
            have hqm2 : q ≤ m + 1 := by have := HQ.out; omega
            clear d7 hg
            by_cases hql : q < f.length
            · have HBI := Lib.hid (show SameOn (· < w1.heap.size) wo wi from .of_below (HBO.out.trans (HGI.out.below.mono HZ7.out)))
              obtain ⟨rfl, hbf, -, hokq, hcq⟩ := HFO.out wi HBI.out q hql
              obtain ⟨-, -, -, hokm, hcm⟩ := HFO.out wi HBI.out m (by omega)
              obtain ⟨-, -, -, -, hcz⟩ := HFO.out wi HBI.out 0 (by omega)
              have hp1 := HPP.out f[q] (List.getElem_mem hql) f[0] (List.getElem_mem (by omega))
              have has := HAS.out m (by have := HQ.out; omega)
              have hqe : f[m + 1]'(by have := HQ.out; omega) = f[q] := by congr 1; exact HQ.out.symm
              rw [hqe] at has
              obtain ⟨hs1, hs2⟩ := has
              have e8q := hcq 8 (by decide)
              have e8z := hcz 8 (by decide)
              have e7q := hcq 7 (by decide)
              have e7m := hcm 7 (by decide)
              rw [show (sCells f[q])[8]? = some (.string f[q].pt) from rfl, hp1] at e8q
              rw [show (sCells f[0])[8]? = some (.string f[0].pt) from rfl] at e8z
              rw [show (sCells f[q])[7]? = some (.int .i64 f[q].tm) from rfl] at e7q
              rw [show (sCells f[m])[7]? = some (.int .i64 f[m].tm) from rfl] at e7m
              have hq0 := HTF.out f[q] (List.getElem_mem hql)
              have hm0 := HTF.out f[m] (List.getElem_mem (by omega))
              have htq := hokq.tm
              unfold i64ok at htq
              generalize f[0].pt = p at e8q e8z
              generalize f[q].tm = tq at e7q hs1 hs2 hq0 htq
              generalize f[m].tm = tm at e7m hs1 hs2 hm0
              have hbf2 : bf < wi.heap.size := by have := HZ7.out; have := HGI.out.below.size; omega
              have g1 := fun n os => cell_grown (w := wi) (a := ⟨br, orr + i, none⟩) hbw dd n os
              have g2 := fun n os => cell_grown (w := wi) (a := ⟨bf, of + q * 11 + 8, none⟩) hbf2 e8q n os
              have g3 := fun n os => cell_grown (w := wi) (a := ⟨bf, of + 0 * 11 + 8, none⟩) hbf2 e8z n os
              simp only [Nat.zero_mul, Nat.add_zero] at g3
              have g4 := fun n os => cell_grown (w := wi) (a := ⟨bf, of + q * 11 + 7, none⟩) hbf2 e7q n os
              have g5 := fun n os => cell_grown (w := wi) (a := ⟨bf, of + m * 11 + 7, none⟩) hbf2 e7m n os
              obtain ⟨dt, hdt⟩ : ∃ d, tq - tm = d := ⟨_, rfl⟩
              have hwd : IntKind.i64.wrap (tq - tm) = dt := by rw [hdt]; exact wrap_in (by omega) (by omega)
              have hwq : IntKind.i64.wrap ((q : Int) - 1) = (m : Int) := by rw [wrap_in (by omega) (by omega)]; omega
              have k1 : decide (tq < tm) = false := by rw [decide_eq_false_iff_not]; omega
              have k2 : decide (dt > g) = false := by rw [decide_eq_false_iff_not]; omega
              have k3 : (p.toList != p.toList) = false := by simp
              have q0 : (0 : Int) ≤ (q : Int) := by omega
              have q1 : (q : Int) < (f.length : Int) := by omega
              have m0 : (0 : Int) ≤ (m : Int) := by omega
              have m1 : (m : Int) < (f.length : Int) := by omega
              have z1 : (0 : Int) < (f.length : Int) := by omega
              clear hcq hcm hcz hokq hokm hp1 hqe hs1 hs2 hq0 hm0 htq e8q e8z e7q e7m hdt hqm hqm2
              go_upto_region 19 with (fail)
              clear dd
              refine QW.regionG (by kernel_rfl) (by kernel_rfl) ?_
              (iterate 58 (refine QW.yes (by kernel_rfl) (fun K hK => ?_)
                           go_simp
                           (with_reducible refine hK _ ?_)
                           clear hK K))
              refine QW.nil ?_
              intro _ hw'
              obtain ⟨⟨nq, osq⟩, hw''⟩ := hw'
              subst hw''
              have HGQ := Lib.hid (show GrB wi (grow (wi.drewN nq) osq) from ⟨nq, osq, rfl⟩)
              clear g1 g2 g3 g4 g5
              generalize grow (wi.drewN nq) osq = wq at HGQ ⊢
              go_wp2_with (fail)
              go_roundg (f.length - 1 - (m + 1))
              case measure => have := HQ.out; omega
              case rel => exact ⟨m + 1, q + 1, by have := HQ.out; omega, by go_num, Lib.hid (by rw [HQ.out]), HGI.out.trans HGQ.out⟩
            · have hkl : ¬ (q : Int) < (f.length : Int) := by omega
              go_wp2_with (fail)
              go_loopg [10] i (fun gx k wr => ∃ j : Nat, j + gx = i ∧ k = .int .i64 j ∧ GrB w7 wr)
              case atStart => exact ⟨0, by omega, rfl, HGI.out⟩
              case round =>
                obtain ⟨wj, rfl⟩ : ∃ wj : World, wj = wr := ⟨_, rfl⟩
                obtain ⟨j, hj, rfl, hgj⟩ := hrel
                have HGJ := Lib.hid hgj
                clear hgj dd
                by_cases hji : j < i
                · have HBJ := Lib.hid (show SameOn (· < w1.heap.size) w1 wj from .of_below (HB7.out.trans (HGJ.out.below.mono HZ7.out)))
                  have HBK := Lib.hid (show SameOn (· < w1.heap.size) wo wj from .of_below (HBO.out.trans (HGJ.out.below.mono HZ7.out)))
                  obtain ⟨-, hbr2, -, hv2, hc2, hs2⟩ := HRO.out wj HBJ.out j (by omega)
                  have hse := HSE.out j (by omega) hji
                  have hrt := HRT.out _ (List.getElem_mem (show j < R.length by omega))
                  generalize R[j] = f2 at hc2 hs2 hse hrt
                  obtain ⟨a2, c2, _, _, rfl, -, -, -⟩ := id hs2
                  have hbw2 : br < wj.heap.size := by have := HZ7.out; have := HGJ.out.below.size; omega
                  have dj := (HGJ.out.below.cell (p := ⟨br, orr + i, none⟩) (by have := HZ7.out; show br < w7.heap.size; omega)).trans HD7.out
                  have HSJ := Lib.hid (show SlIs tSeen (· < w1.heap.size) wj (.slice af f.length cf) f from HS.out.keep (fun _ h => h) HBK.out)
                  have HSK := Lib.hid hs2
                  have g1 := fun n os => cell_grown (w := wj) (a := ⟨br, orr + i, none⟩) hbw2 dj n os
                  have g2 := fun n os => cell_grown (w := wj) (a := ⟨br, orr + j, none⟩) hbw2 hc2 n os
                  have HAP := Lib.hid (show ∀ n os, Calls Try.prog 17 #[.slice af f.length cf, .slice a2 f2.length c2, .int .i64 g] (grow (wj.drewN n) os) fun e w' => e = .returned (.bool true) ∧ ∃ q os', w' = grow ((grow (wj.drewN n) os).drewN q) os' from fun n os => by
                    have hbb : Below wj.heap.size wj (grow (wj.drewN n) os) := GrB.below ⟨n, os, rfl⟩
                    have hz : w1.heap.size ≤ wj.heap.size := by have := HZ7.out; have := HGJ.out.below.size; omega
                    exact apart_any f f2 g _ _ _ (HSJ.out.keep (fun k hk => Nat.lt_of_lt_of_le hk (Nat.le_trans hz hbb.size)) (.of_below (hbb.mono hz))) (HSK.out.keep (fun k hk => Nat.lt_of_lt_of_le hk (Nat.le_trans hz hbb.size)) (.of_below (hbb.mono hz))) HTF.out hrt (fun a ha b hb hp => by have := hse a ha b hb hp; omega))
                  have j0 : (0 : Int) ≤ (j : Int) := by omega
                  have j1 : (j : Int) < (R.length : Int) := by omega
                  have j2 : (j : Int) < (i : Int) := by omega
                  clear hc2 hs2 hse hrt dj
                  go_upto_region 24 with (fail)
                  refine wp_region_quiet_grown (by kernel_rfl) (by kernel_rfl) ?_
                  (repeat (quiet_step ((go_at_call 17; with_reducible exact Calls.grown_of (HAP.out _ _)))))
                  refine wpQuiet_nil ?_
                  intro _ hw'
                  obtain ⟨⟨nq, osq⟩, hw''⟩ := hw'
                  subst hw''
                  have HGQ := Lib.hid (show GrB wj (grow (wj.drewN nq) osq) from ⟨nq, osq, rfl⟩)
                  clear g1 g2
                  generalize grow (wj.drewN nq) osq = wq at HGQ ⊢
                  go_wp2_with (fail)
                  go_roundg (i - (j + 1))
                  case measure => omega
                  case rel => exact ⟨j + 1, by omega, by go_num, HGJ.out.trans HGQ.out⟩
                · have hkl2 : ¬ (j : Int) < (i : Int) := by omega
                  go_wp2_with (fail)
                  go_roundg (R.length - (i + 1))
                  case measure => omega
                  case rel => exact ⟨i + 1, by omega, by go_num, by rw [HFT.out]; have := HO7.out.below HGJ.out.below; rwa [List.length_append] at this, HB7.out.trans (HGJ.out.below.mono HZ7.out)⟩
        · have hkl : ¬ (i : Int) < (R.length : Int) := by omega
          have ho := HOW.out
          rw [show i = R.length by omega, List.take_length] at ho
          generalize R.flatten = M at ho HPM
          obtain ⟨av, cv, rfl, hv1, hv2⟩ := ho.form
          have HSM := Lib.hid ho.sl
          have hml : ((M.length : Int) != (l.length : Int)) = false := by rw [HPM.out.length_eq]; simp
          have HBL := Lib.hid (show Below W.heap.size W wo from HB1.out.trans (HB.out.mono HB1.out.size))
          clear hown hb ho hv1 hv2 HOW HLX
          go_wp2_with (fail)
          go_loopg [11] l.length (fun gx k wr => ∃ j : Nat, j + gx = l.length ∧ k = .int .i64 j ∧ GrB wo wr)
          case atStart => exact ⟨0, by omega, rfl, GrB.refl _⟩
          case round =>
            obtain ⟨wj, rfl⟩ : ∃ wj : World, wj = wr := ⟨_, rfl⟩
            obtain ⟨j, hj, rfl, hgj⟩ := hrel
            have HGJ := Lib.hid hgj
            clear hgj
            by_cases hjl : j < l.length
            · have HBJ := Lib.hid (show Below W.heap.size W wj from HBL.out.trans (HGJ.out.below.mono HBL.out.size))
              obtain ⟨rfl, hbW, -, hok, hc⟩ := HO.out wj (.of_below HBJ.out) j hjl
              generalize l[j] = s at hc hok
              obtain ⟨A, hA⟩ : ∃ A, (sCells s).toArray = A := ⟨_, rfl⟩
              obtain ⟨c, hcc⟩ : ∃ c, cntS l s = c := ⟨_, rfl⟩
              have hbW2 : b < wj.heap.size := Nat.lt_of_lt_of_le hbW HBJ.out.size
              have LD := Lib.hid (show ∀ n os, Sem.run Try.prog (loadCellsFrom ⟨b, o + j * 11, none⟩ 0 11 #[]) (grow (wj.drewN n) os) = .ok A (grow (wj.drewN n) os) from fun n os => by
                rw [← hA]
                exact load_seen _ fun jj hjj => ((GrB.below ⟨n, os, rfl⟩).cell (p := ⟨b, o + j * 11 + jj, none⟩) hbW2).trans (hc jj hjj))
              have HC1 := Lib.hid (show ∀ n os, Calls Try.prog 18 #[.slice av M.length cv, .agg A] (grow (wj.drewN n) os) fun e w' => e = .returned (.int .i64 c) ∧ ∃ q os', w' = grow ((grow (wj.drewN n) os).drewN q) os' from fun n os => by
                have hbb : Below wo.heap.size wo (grow (wj.drewN n) os) := bl_trans HGJ.out.below (GrB.below ⟨n, os, rfl⟩)
                rw [← hA, ← hcc, ← cntS_perm HPM.out]
                exact count_any M s _ _ (SlIs.step HSM.out hbb))
              have HC2 := Lib.hid (show ∀ n os, Calls Try.prog 18 #[.slice (some ⟨b, o, none⟩) l.length cp, .agg A] (grow (wj.drewN n) os) fun e w' => e = .returned (.int .i64 c) ∧ ∃ q os', w' = grow ((grow (wj.drewN n) os).drewN q) os' from fun n os => by
                rw [← hA, ← hcc]
                exact count_any l s _ _ (SlIs.step HLL.out (bl_trans HBJ.out (GrB.below ⟨n, os, rfl⟩))))
              have j0 : (0 : Int) ≤ (j : Int) := by omega
              have j1 : (j : Int) < (l.length : Int) := by omega
              have hccn : ((c : Int) != (c : Int)) = false := by simp
              clear hA hc hok hcc
              go_upto_region 31 with (fail)
              refine wp_region_quiet_grown (by kernel_rfl) (by kernel_rfl) ?_
              (iterate 4 (quiet_step (fail)))
              refine wpQuiet_step (fun K hK => ?_)
              rw [if_pos (show _ = true by kernel_rfl)]
              refine quiet_loadA (A := A) rfl Try.isAgg31 Try.sizeOf31 rfl (fun w' hw' => ?_) (hK _ ?_)
              · obtain ⟨⟨nq, osq⟩, rfl⟩ := hw'
                exact LD.out nq osq
              clear hK K
              quiet_step ((go_at_call 18; with_reducible exact Calls.grown_of (HC1.out _ _)))
              (iterate 4 (quiet_step (fail)))
              refine wpQuiet_step (fun K hK => ?_)
              rw [if_pos (show _ = true by kernel_rfl)]
              refine quiet_loadA (A := A) rfl Try.isAgg31 Try.sizeOf31 rfl (fun w' hw' => ?_) (hK _ ?_)
              · obtain ⟨⟨nq, osq⟩, rfl⟩ := hw'
                exact LD.out nq osq
              clear hK K
              quiet_step ((go_at_call 18; with_reducible exact Calls.grown_of (HC2.out _ _)))
              quiet_step (fail)
              refine wpQuiet_nil ?_
              intro _ hw'
              obtain ⟨⟨nq, osq⟩, hw''⟩ := hw'
              subst hw''
              have HGQ := Lib.hid (show GrB wj (grow (wj.drewN nq) osq) from ⟨nq, osq, rfl⟩)
              generalize grow (wj.drewN nq) osq = wq at HGQ ⊢
              go_wp2_with (fail)
              go_roundg (l.length - (j + 1))
              case measure => omega
              case rel => exact ⟨j + 1, by omega, by go_num, HGJ.out.trans HGQ.out⟩
            · have hkl2 : ¬ (j : Int) < (l.length : Int) := by omega
              go_wp2_with (go_at_call 13
                           refine (alive_any _).mono ?_
                           rintro e w9 ⟨rfl, hb9⟩
                           have HB9 := Lib.hid (bl_trans HGJ.out.below hb9)
                           clear hb9)
              go_ret
              exact ⟨rfl, HBL.out.trans (HB9.out.mono HBL.out.size)⟩
set_option maxRecDepth 100000 in
theorem parts_lift (os : Os) (started : os.Started) (H : Type) (enc : TypeId × Value → H) :
    ReturnsInHanded {} Try.checked os 5 .any (Rows.groupPartsSpec.pre6 enc Try.prog Try.f5 Rows.groupPartsRow.domain false) (Rows.groupPartsSpec.post enc Try.prog Try.f5 false true false false) :=
  law_lift (C := Try.checked) (s := Rows.groupPartsSpec) (fn := Try.f5) ⟨rfl, fun H ds h => by
    match ds, h with
    | [a, b], _ => exact ⟨rfl, rfl, rfl⟩⟩ rfl Try.underlying4 (by kernel_rfl) laid0 own0 started (by kernel_rfl) Try.func5
    (ChangeSpec.witness6 (enc := enc) (C := Try.checked) false ⟨#[], #[.slice none 0 0, .int .i64 0], []⟩ 8 (by kernel_rfl) (by kernel_rfl) (by kernel_rfl) (by kernel_rfl)) parts_walk

/-- THE STATEMENT: GroupParts. -/
theorem parts_holds : Rows.GroupPartsSaid :=
  OpenClaim.holds_of_wide 5 Try.f5 rfl rfl rfl rfl rfl rfl rfl ⟨rfl, rfl, rfl, rfl, rfl⟩ rfl rfl rfl rfl rfl (by kernel_rfl) Try.func5 (by kernel_rfl)
    (of_decide_eq_true (by kernel_rfl)) (by unfold Func.isWrapper; rw [if_neg (of_decide_eq_false (by kernel_rfl))]; exact ⟨rfl, rfl⟩)
    (fun os started H enc _ => parts_lift os started H enc)
end Go.Proofs.Ytffpnbipacgidaa
