/-
  Layer 6 (match): the walk of the reference's Second. (NOT YET BUILT.)
-/
import Derived.Test.YtepceaoccnmkiaaMatchRefB
import Derived.Test.YtepceaoccnmkiaaMatchSecond
namespace Go.Proofs.Ytepceaoccnmkiaa
open Go.RowKit Go.Tw Go.Tw.Match
theorem cand_bound {m : Mat} (h : Ok m) {i : Nat} {j : Int} {c : List Int × Int} (hc : c ∈ cand m i j) : 0 ≤ c.2 ∧ c.2 ≤ 40000000000 := by
  unfold cand at hc
  split at hc
  · cases hc
  · split at hc
    · cases hc
    · rename_i q
      rw [List.mem_singleton] at hc
      subst hc
      have := mn_hi h (pinL m.row.length (bestL m) i j) m.row.length 0 0
      have n8 := h.n8
      exact ⟨by simpa using q, by show mn _ ≤ 40000000000; omega⟩
/-- what the reference's Second has found so far -/
def SecR (B n : Nat) (w : World) (s : Option (List Int × Int)) (v l : Value) : Prop := match s with
  | none => v = .slice none 0 0 ∧ l = .int .i64 (-1)
  | some f => OwnSl tInt 3 B w v f.1 ∧ l = .int .i64 f.2 ∧ sound n f ∧ 0 ≤ f.2 ∧ f.2 ≤ 40000000000
theorem SecR.below {B n : Nat} {w w' : World} {s : Option (List Int × Int)} {v l : Value} (h : SecR B n w s v l) (hb : Below w.heap.size w w') : SecR B n w' s v l := by
  cases s with
  | none => exact h
  | some f => exact ⟨h.1.below hb, h.2⟩
set_option maxRecDepth 100000 in
set_option maxHeartbeats 20000000 in
theorem secondR_any (m : Mat) (vc vr vl : Value) (w : World) (h : MatIs w vc vr vl m) :
    Calls Try.prog 22 #[.agg #[vc, vr, vl]] w fun e w' => SecE w.heap.size m w' e ∧ Below w.heap.size w w' := by
  have HM := Lib.hid h
  obtain ⟨ac, cc, bc, oc, ar, cr, br, or, al, cl, bl, ol, rfl, rfl, rfl, hm⟩ := h.at
  obtain ⟨cc1, cc2, cr1, cr2, cl1, cl2, -, -, -⟩ := hm
  clear h
  have HB := Lib.hid (BoxW.start w (.slice ac m.cost.length cc) (.slice ar m.row.length cr) (.slice al m.col.length cl))
  by_cases hc : chk m = 0
  case neg =>
    have hcn : (chk m != 0) = true := by rw [bne_iff_ne]; exact hc
    have HT := Lib.hid hc; clear hc
    go_enter Try.func22, Try.ntmps22
    go_wp2_with (fail)
    refine (checkR_any m _ _ _ _ (HM.out.step (bl_alloc (Below.refl _ _) _))).mono ?_
    rintro e w1 ⟨rfl, hb1⟩
    have HB1 := Lib.hid (HB.out.below hb1); clear hb1
    go_wp2
    go_ret3
    exact ⟨sec_bad HT.out, HB1.out.2⟩
  have hcn : (chk m != 0) = false := by rw [bne_eq_false_iff_eq]; exact hc
  have hok := chk_ok.1 hc
  have HT := Lib.hid hc
  clear hc
  have n8 := hok.n8
  have c8 := hok.c8
  obtain ⟨all, hall⟩ : ∃ all, 2 ^ m.col.length = all := ⟨_, rfl⟩
  have hal : all ≤ 256 := by rw [← hall]; exact Nat.le_trans (Nat.pow_le_pow_right (by decide) c8) (by decide)
  have HALL := Lib.hid hall
  clear hall
  go_enter Try.func22, Try.ntmps22
  go_wp2_with (fail)
  refine (checkR_any m _ _ _ _ (HM.out.step (bl_alloc (Below.refl _ _) _))).mono ?_
  rintro e w1 ⟨rfl, hb1⟩
  have HB1 := Lib.hid (HB.out.below hb1); clear hb1 HB
  obtain ⟨x0, x1, x2, xf⟩ := blk3 HB1.out.1
  go_wp2_with (fail)
  refine (rests_any m hok (opn m.row.length) (-1) 0 (dem_opn m (-1) 0 (by decide)) _ _ _ _ (HM.out.step HB1.out.2)).mono ?_
  rintro e w2 ⟨⟨g, bs, rfl, hr⟩, hb2⟩
  have HB2 := Lib.hid (HB1.out.below hb2)
  have HR := Lib.hid hr
  clear hr hb2 x0 x1 x2 xf
  obtain ⟨x0, x1, x2, xf⟩ := blk3 HB2.out.1
  go_wp2_with (fail)
  refine (complete_any m hok _ _ _ _ w2 (HM.out.step HB2.out.2) _ g bs HR.out [] SlIs.nil trivial (Nat.zero_le _) (best_ok hok)).mono ?_
  rintro e w3 ⟨⟨v3, rfl, ho3⟩, hb3⟩
  have HO3 := Lib.hid (show OwnSl tInt 3 w2.heap.size w3 v3 (bestL m) from ho3)
  have HB3 := Lib.hid (HB2.out.below hb3)
  have HR3 := Lib.hid (HR.out.below hb3)
  clear ho3 hb3 x0 x1 x2 xf HR
  obtain ⟨ao, co, bo, oo, rfl, co1, co2, hio⟩ := Go.Tw.Match.ints_at HO3.out.sl
  unfold maxLen at co2
  have HIO := Lib.hid hio
  have hbl := best_len hok
  rw [hbl] at co1 ⊢
  have HBL := Lib.hid hbl
  have HRT := Lib.hid (show ∀ w', Below w3.heap.size w3 w' → RTab _ w' g m.row.length (2 ^ m.col.length) bs 0 (finR m (opn m.row.length)) from fun w' hb => HR3.out.below hb)
  have HSB := Lib.hid (show ∀ w', Below w3.heap.size w3 w' → SlIs tInt (· < w3.heap.size) w' (.slice ao m.row.length co) (bestL m) from fun w' hb => by
    have := HO3.out.sl
    rw [show (bestL m).length = m.row.length from HBL.out] at this
    exact this.keep (fun _ h => h) (.of_below hb))
  have hw3 : w.heap.size < w3.heap.size := lt_of_heap HB3.out.1
  clear HR3 HO3 HB2
  go_wp2_with (fail)
  go_loopg [10, 7, 8, 9] m.row.length (fun g' ii v l st wr => ∃ (i q : Nat) (v0 l0 : Value), v0 = v ∧ l0 = l ∧ i + g' = m.row.length ∧ ii = .int .i64 i ∧ st = .int .i64 q ∧ q = msk 0 ((bestL m).take i) ∧ SecR (w.heap.size + 1) m.row.length wr ((candsTo m (cand m) i 0).foldl pick none) v0 l0 ∧ BoxW w (.slice ac m.cost.length cc) (.slice ar m.row.length cr) (.slice al m.col.length cl) wr ∧ Below w3.heap.size w3 wr)
  case atStart => exact ⟨0, 0, _, _, rfl, rfl, by omega, rfl, rfl, by simp [msk], ⟨rfl, rfl⟩, HB3.out, Below.refl _ _⟩
  case round =>
    clear HB3
    obtain ⟨i, q, v0, l0, rfl, rfl, hi, rfl, rfl, hq, hS, hbx, hbb⟩ := hrel
    have HS := Lib.hid hS
    have HB := Lib.hid hbx
    have HBB := Lib.hid hbb
    have HQ := Lib.hid hq
    clear hS hbx hbb hq
    by_cases hlt : i < m.row.length
    case neg =>
      obtain rfl : i = m.row.length := by omega
      have hid' : decide ((m.row.length : Int) < (m.row.length : Int)) = false := by simp
      have HSS := Lib.hid (show SecR (w.heap.size + 1) m.row.length wr (secO m) v0 l0 by have := HS.out; rw [candsTo_all] at this; exact this)
      clear hlt hi HS
      cases hs : secO m with
      | none =>
        have HS1 := HSS.out
        rw [hs] at HS1
        obtain ⟨rfl, rfl⟩ := HS1
        have HC := Lib.hid (show secC m = ([], 0, false) by unfold secC; rw [if_neg (by simp [HT.out]), hs])
        have HE := Lib.hid (show SecE w.heap.size m wr (.returned (.tuple #[.slice none 0 0, .int .i64 0, .bool false])) from ⟨_, by rw [HC.out], by rw [HC.out]; exact OwnSl.nil _ _ _ _⟩)
        clear hs HSS
        go_wp2_with (fail)
        go_ret3
        exact ⟨HE.out, HB.out.2⟩
      | some f =>
        have HS1 := HSS.out
        rw [hs] at HS1
        obtain ⟨hof, rfl, -, hf0, hf1⟩ := HS1
        have HOF := Lib.hid hof
        have HC := Lib.hid (show secC m = (f.1, f.2, true) by unfold secC; rw [if_neg (by simp [HT.out]), hs])
        obtain ⟨fl, hfl⟩ : ∃ fl, f.2 = fl := ⟨_, rfl⟩
        have hfn : decide (fl < 0) = false := by simp; omega
        rw [hfl] at HC ⊢
        have HE := Lib.hid (show SecE w.heap.size m wr (.returned (.tuple #[v0, .int .i64 fl, .bool true])) from ⟨_, by rw [HC.out], by rw [HC.out]; exact own_low HOF.out (by omega)⟩)
        clear hs HSS hof hf0 hf1 hfl
        go_wp2_with (fail)
        go_ret3
        exact ⟨HE.out, HB.out.2⟩
    have i0 : (0 : Int) ≤ (i : Int) := by omega
    have i1 : (i : Int) < (m.row.length : Int) := by omega
    obtain ⟨hlb, HLB⟩ : ∃ h : i < (bestL m).length, Hid ((bestL m).getD i 0 = (bestL m)[i]) := ⟨by rw [HBL.out]; exact hlt, Lib.hid (by rw [List.getD_eq_getElem?_getD, List.getElem?_eq_getElem (by rw [HBL.out]; exact hlt)]; rfl)⟩
    obtain ⟨hcm, hcj⟩ := chain_get (bestL m) 0 0 i hlb (best_chain hok)
    obtain ⟨hb1', hb2'⟩ := choices_mem.1 hcm
    rw [Nat.zero_add, ← HQ.out] at hcj
    have hq2 : q < all := by
      rw [HQ.out, ← HALL.out]
      exact msk_lt _ _ (Nat.two_pow_pos _) (fun x hx => by
        obtain ⟨t, ht, rfl⟩ := List.getElem_of_mem (List.mem_of_mem_take hx)
        exact (choices_mem.1 (chain_get (bestL m) 0 0 t ht (best_chain hok)).1).2)
    have hhas : hasC q (bestL m)[i] = false := by
      rw [okJ_has hok] at hcj
      simp at hcj
      exact hcj.1
    have HNQ := Lib.hid (show q + bitC (bestL m)[i] = msk 0 ((bestL m).take (i + 1)) by
      rw [nxt_add (by omega) (by omega) hhas, List.take_succ_eq_append_getElem hlb, msk_snoc, ← HQ.out])
    have hb8 : bitC (bestL m)[i] ≤ 256 := by
      unfold bitC
      split
      · omega
      · exact Nat.le_trans (Nat.pow_le_pow_right (by decide) (show (bestL m)[i].toNat ≤ 8 by omega)) (by decide)
    have HBIT := Lib.hid (fun w' => bit_any (bestL m)[i] w' hb1' (by omega))
    have HIX := Lib.hid (fun w' h => HIO.out w' h i hlb)
    obtain ⟨rfl, hbo, y0', -⟩ := HIX.out _ HBB.out
    obtain ⟨bi, hbi⟩ : ∃ bi, (bestL m)[i] = bi := ⟨_, rfl⟩
    rw [hbi] at HLB HNQ hb8
    simp only [hbi] at HBIT HIX
    clear hbi hcm hcj hhas y0' hb1' hb2' hlb
    have q0 : (0 : Int) ≤ (q : Int) := by omega
    go_wp2_with (fail)
    go_loopg [11, 7, 8] (m.col.length + 1) (fun g' jx v l wi => ∃ (t : Nat) (z : Int) (v0 l0 : Value), v0 = v ∧ l0 = l ∧ t + g' = m.col.length + 1 ∧ z = (t : Int) - 1 ∧ jx = .int .i64 z ∧ SecR (w.heap.size + 1) m.row.length wi ((candsTo m (cand m) i t).foldl pick none) v0 l0 ∧ BoxW w (.slice ac m.cost.length cc) (.slice ar m.row.length cr) (.slice al m.col.length cl) wi ∧ Below w3.heap.size w3 wi)
    case atStart => exact ⟨0, -1, _, _, rfl, rfl, by omega, rfl, rfl, HS.out, HB.out, HBB.out⟩
    case round =>
      clear HS HB HBB
      rename_i wr0
      obtain ⟨wo, rfl⟩ : ∃ wo : World, wo = wr := ⟨_, rfl⟩
      obtain ⟨t, z, v0, l0, rfl, rfl, ht, hz, rfl, hS, hbx, hbb⟩ := hrel
      have HS := Lib.hid hS
      have HB := Lib.hid hbx
      have HBB := Lib.hid hbb
      have HZ := Lib.hid hz
      clear hS hbx hbb
      obtain ⟨x0, x1, x2, xf⟩ := blk3 HB.out.1
      obtain ⟨-, -, y0, -⟩ := HIX.out _ HBB.out
      by_cases htl : t < m.col.length + 1
      case neg =>
        obtain rfl : z = (m.col.length : Int) := by omega
        have hcd : decide ((m.col.length : Int) < (m.col.length : Int)) = false := by simp
        have HS2 := Lib.hid (show SecR (w.heap.size + 1) m.row.length wo ((candsTo m (cand m) (i + 1) 0).foldl pick none) v0 l0 by
          rw [← candsTo_next m (cand m) i t (by omega)]; exact HS.out)
        clear hz htl ht HS
        obtain ⟨bb2, hbb2⟩ : ∃ b, bitC bi = b := ⟨_, rfl⟩
        rw [hbb2] at HNQ hb8
        simp only [hbb2] at HBIT
        clear hbb2
        go_wp2_with (go_at_call 35; refine ((HBIT.out _)).mono ?_; rintro e w' ⟨rfl, rfl⟩)
        go_roundg (m.row.length - (i + 1))
        case measure => omega
        case rel => exact ⟨i + 1, q + bb2, _, _, rfl, rfl, by omega, by go_num, by go_num, HNQ.out, HS2.out, HB.out, HBB.out⟩
      have hcl : t < (colsR m.col.length).length := by rw [colsR_len]; exact htl
      have HCS := Lib.hid (show candsTo m (cand m) i (t + 1) = candsTo m (cand m) i t ++ candR m i z by
        rw [candsTo_succ m (cand m) i hcl, ← hz, cand_eq hok hlt (choices_mem.2 ⟨by omega, by omega⟩)])
      have hz1 : -1 ≤ z := by omega
      have hz2 : z < (m.col.length : Int) := by omega
      have HT1 := Lib.hid (show t + 1 + (m.col.length + 1 - (t + 1)) = m.col.length + 1 by omega)
      clear hz hcl
      have hmk : nxt q z < all := by rw [← HALL.out]; exact nxt_lt (by rw [HALL.out]; exact hq2) hz2
      have HCELL := Lib.hid (show ∀ W, Below w3.heap.size w3 W → W.cell? ⟨g, i + 1, none⟩ = some (.slice (some ⟨bs (i + 1), 0, none⟩) all all) ∧ W.cell? ⟨bs (i + 1), nxt q z * 2, none⟩ = some (.int .i64 (mn (costs m (opn m.row.length) (m.row.length - (i + 1)) (i + 1) (nxt q z)))) from fun W hW => by
        have T := HRT.out W hW
        rw [HALL.out] at T
        have e2 := (T.row (i + 1) (Nat.zero_le _) (by omega)).cells hmk
        unfold finR at e2
        exact ⟨(T.at (Nat.zero_le _) (by omega)).1, e2.1⟩)
      obtain ⟨r, hr⟩ : ∃ r, mn (costs m (opn m.row.length) (m.row.length - (i + 1)) (i + 1) (nxt q z)) = r := ⟨_, rfl⟩
      obtain ⟨pc, hpc⟩ : ∃ pc, price m i z = pc := ⟨_, rfl⟩
      have hpr := price_range hok i z
      have hrr := mn_hi hok (opn m.row.length) (m.row.length - (i + 1)) (i + 1) (nxt q z)
      have HOK := Lib.hid (show okJ m i z (msk 0 ((bestL m).take i)) = (!hasC q z && decide (0 ≤ pc)) by rw [okJ_has hok, hpc, ← HQ.out])
      have HPR := Lib.hid (show ∀ w5, Below w.heap.size w w5 → Calls Try.prog 27 #[.agg #[.slice ac m.cost.length cc, .slice ar m.row.length cr, .slice al m.col.length cl], .int .i64 i, .int .i64 z] w5 fun e w' => e = .returned (.int .i64 pc) ∧ Below w5.heap.size w5 w' from fun w5 hb => by
        rw [← hpc]; exact price_any m hok _ _ _ w5 i z (HM.out.step hb) hlt (by omega) (by omega))
      rw [hr] at HCELL hrr
      rw [hpc] at hpr
      have HRR := Lib.hid (show mn (costs m (opn m.row.length) (m.row.length - (i + 1)) (i + 1) (nxt (msk 0 ((bestL m).take i)) z)) = r by rw [← HQ.out]; exact hr)
      have HHAS := Lib.hid (show ∀ w5, Calls Try.prog 34 #[.int .i64 q, .int .i64 z] w5 fun e w' => e = .returned (.bool (hasC q z)) ∧ w5 = w' from fun w5 => has_any q z w5 (by omega) (by omega) (by omega))
      have HBT := Lib.hid (show ∀ w5, Calls Try.prog 35 #[.int .i64 z] w5 fun e w' => e = .returned (.int .i64 (bitC z : Nat)) ∧ w5 = w' from fun w5 => bit_any z w5 (by omega) (by omega))
      have HNX := Lib.hid (fun h => nxt_add (set := q) (j := z) (by omega) (by omega) h)
      have hb8z : bitC z ≤ 256 := by
        unfold bitC
        split
        · omega
        · exact Nat.le_trans (Nat.pow_le_pow_right (by decide) (show z.toNat ≤ 8 by omega)) (by decide)
      obtain ⟨nx, hnx⟩ : ∃ nx, nxt q z = nx := ⟨_, rfl⟩
      have HNXE := Lib.hid hnx
      rw [hnx] at HCELL HNX hmk
      have nx0 : (0 : Int) ≤ (nx : Int) := by omega
      have nx1 : (nx : Int) < (all : Int) := by omega
      have i2 : (i : Int) + 1 < (m.row.length : Int) + 1 := by omega
      clear hr hpc hnx
      have hwz : w.heap.size ≤ wo.heap.size := HB.out.2.size
      go_upto_region 14 with (fail)
      obtain ⟨c1, c2⟩ := HCELL.out _ HBB.out
      have k0 := cell_regrown x0
      have k1 := cell_regrown x1
      have k2 := cell_regrown x2
      have k3 := cell_regrown y0
      have k4 := cell_regrown c1
      have k5 := cell_regrown c2
      have cP := fun d os => Calls.regrown_of (HPR.out (Go.Sort.grow (redrawn wo d) os) (HB.out.2.trans ((below_regrown wo d os).mono hwz)))
      have cH := fun d os => Calls.regrown_of ((HHAS.out (Go.Sort.grow (redrawn wo d) os)).mono (fun _ _ h => ⟨h.1, by rw [← h.2]; exact Below.refl _ _⟩))
      have cB := fun d os => Calls.regrown_of ((HBT.out (Go.Sort.grow (redrawn wo d) os)).mono (fun _ _ h => ⟨h.1, by rw [← h.2]; exact Below.refl _ _⟩))
      have hs3 : IntKind.i64.wrap ((i : Int) + 1) = (i : Int) + 1 := wrap_in (by omega) (by omega)
      have hs4 : (0 : Int) ≤ (i : Int) + 1 := by omega
      have hs5 : ((i : Int) + 1).toNat = i + 1 := by omega
      clear x0 x1 x2 xf y0 c1 c2
      by_cases hzb : z = bi
      · have hzt : (z == bi) = true := by simpa using hzb
        have HN := Lib.hid (show candsTo m (cand m) i (t + 1) = candsTo m (cand m) i t by rw [HCS.out]; unfold candR; rw [if_pos (.inl (by rw [HLB.out]; exact hzb)), List.append_nil])
        clear hzb
        refine QW.region (by kernel_rfl) (by kernel_rfl) ?_
        (iterate 7 (refine QW.yes (by kernel_rfl) (fun K hK => ?_)
                    go_simp
                    first
                      | (with_reducible refine hK _ ?_)
                      | (apply Exists.intro
                         refine ⟨fun _ => ?_, hK _ ?_⟩
                         (first
                           | (go_at_call 27; exact cP _ _)
                           | (go_at_call 34; exact cH _ _)
                           | (go_at_call 35; exact cB _ _)))
                    clear hK K))
        (iterate 3 (refine QW.no (by kernel_rfl) ?_
                    (try simp only [Act.put])
                    (try simp only [List.setIfInBounds_toArray])
                    (repeat (first | simp only [List.set_cons_succ] | simp only [List.set_cons_zero]))))
        (iterate 2 (refine QW.yes (by kernel_rfl) (fun K hK => ?_)
                    go_simp
                    first
                      | (with_reducible refine hK _ ?_)
                      | (apply Exists.intro
                         refine ⟨fun _ => ?_, hK _ ?_⟩
                         (first
                           | (go_at_call 27; exact cP _ _)
                           | (go_at_call 34; exact cH _ _)
                           | (go_at_call 35; exact cB _ _)))
                    clear hK K))
        (iterate 5 (refine QW.no (by kernel_rfl) ?_
                    (try simp only [Act.put])
                    (try simp only [List.setIfInBounds_toArray])
                    (repeat (first | simp only [List.set_cons_succ] | simp only [List.set_cons_zero]))))
        (iterate 2 (refine QW.yes (by kernel_rfl) (fun K hK => ?_)
                    go_simp
                    first
                      | (with_reducible refine hK _ ?_)
                      | (apply Exists.intro
                         refine ⟨fun _ => ?_, hK _ ?_⟩
                         (first
                           | (go_at_call 27; exact cP _ _)
                           | (go_at_call 34; exact cH _ _)
                           | (go_at_call 35; exact cB _ _)))
                    clear hK K))
        (iterate 13 (refine QW.no (by kernel_rfl) ?_
                     (try simp only [Act.put])
                     (try simp only [List.setIfInBounds_toArray])
                     (repeat (first | simp only [List.set_cons_succ] | simp only [List.set_cons_zero]))))
        (refine QW.yes (by kernel_rfl) (fun K hK => ?_)
         go_simp
         first
           | (with_reducible refine hK _ ?_)
           | (apply Exists.intro
              refine ⟨fun _ => ?_, hK _ ?_⟩
              (first
                | (go_at_call 27; exact cP _ _)
                | (go_at_call 34; exact cH _ _)
                | (go_at_call 35; exact cB _ _)))
         clear hK K)
        refine QW.nil ?_
        intro _ hw'
        obtain ⟨⟨dq, osq⟩, hw''⟩ := hw'
        have HG := Lib.hid (show Below wo.heap.size wo (Go.Sort.grow (redrawn wo dq) osq) from below_regrown wo dq osq)
        subst hw''
        clear k0 k1 k2 k3 k4 k5 cH cB cP
        have HS2 := Lib.hid (HS.out.below HG.out)
        have HB2 := Lib.hid (HB.out.below HG.out)
        have HBB2 := Lib.hid (HBB.out.trans (HG.out.mono HBB.out.size))
        go_wp2_with (fail)
        go_roundg (m.col.length + 1 - (t + 1))
        case measure => omega
        case rel => exact ⟨t + 1, z + 1, _, _, rfl, rfl, HT1.out, by have := HZ.out; omega, by go_num, by rw [HN.out]; exact HS2.out, HB2.out, HBB2.out⟩
      have hzt : (z == bi) = false := by simpa using hzb
      cases hhs : hasC q z
      case true =>
        simp only [hhs] at cH
        have HN := Lib.hid (show candsTo m (cand m) i (t + 1) = candsTo m (cand m) i t by rw [HCS.out]; unfold candR; rw [if_pos (.inr (.inl (by rw [HOK.out, hhs]; rfl))), List.append_nil])
        clear hhs
        refine QW.region (by kernel_rfl) (by kernel_rfl) ?_
        (iterate 12 (refine QW.yes (by kernel_rfl) (fun K hK => ?_)
                     go_simp
                     first
                       | (with_reducible refine hK _ ?_)
                       | (apply Exists.intro
                          refine ⟨fun _ => ?_, hK _ ?_⟩
                          (first
                            | (go_at_call 27; exact cP _ _)
                            | (go_at_call 34; exact cH _ _)
                            | (go_at_call 35; exact cB _ _)))
                     clear hK K))
        (iterate 5 (refine QW.no (by kernel_rfl) ?_
                    (try simp only [Act.put])
                    (try simp only [List.setIfInBounds_toArray])
                    (repeat (first | simp only [List.set_cons_succ] | simp only [List.set_cons_zero]))))
        (iterate 2 (refine QW.yes (by kernel_rfl) (fun K hK => ?_)
                    go_simp
                    first
                      | (with_reducible refine hK _ ?_)
                      | (apply Exists.intro
                         refine ⟨fun _ => ?_, hK _ ?_⟩
                         (first
                           | (go_at_call 27; exact cP _ _)
                           | (go_at_call 34; exact cH _ _)
                           | (go_at_call 35; exact cB _ _)))
                    clear hK K))
        (iterate 13 (refine QW.no (by kernel_rfl) ?_
                     (try simp only [Act.put])
                     (try simp only [List.setIfInBounds_toArray])
                     (repeat (first | simp only [List.set_cons_succ] | simp only [List.set_cons_zero]))))
        (refine QW.yes (by kernel_rfl) (fun K hK => ?_)
         go_simp
         first
           | (with_reducible refine hK _ ?_)
           | (apply Exists.intro
              refine ⟨fun _ => ?_, hK _ ?_⟩
              (first
                | (go_at_call 27; exact cP _ _)
                | (go_at_call 34; exact cH _ _)
                | (go_at_call 35; exact cB _ _)))
         clear hK K)
        refine QW.nil ?_
        intro _ hw'
        obtain ⟨⟨dq, osq⟩, hw''⟩ := hw'
        have HG := Lib.hid (show Below wo.heap.size wo (Go.Sort.grow (redrawn wo dq) osq) from below_regrown wo dq osq)
        subst hw''
        clear k0 k1 k2 k3 k4 k5 cH cB cP
        have HS2 := Lib.hid (HS.out.below HG.out)
        have HB2 := Lib.hid (HB.out.below HG.out)
        have HBB2 := Lib.hid (HBB.out.trans (HG.out.mono HBB.out.size))
        go_wp2_with (fail)
        go_roundg (m.col.length + 1 - (t + 1))
        case measure => omega
        case rel => exact ⟨t + 1, z + 1, _, _, rfl, rfl, HT1.out, by have := HZ.out; omega, by go_num, by rw [HN.out]; exact HS2.out, HB2.out, HBB2.out⟩
      simp only [hhs] at cH
      have hs6 : IntKind.i64.wrap ((q : Int) + ((bitC z : Nat) : Int)) = (nx : Int) := by
        have h1 := HNX.out hhs
        have h2 : (q : Int) + ((bitC z : Nat) : Int) = (nx : Int) := by omega
        rw [h2]; exact wrap_in (by omega) (by omega)
      by_cases hp : pc < 0
      · have hpd : decide (0 ≤ pc) = false := by simpa using hp
        have HN := Lib.hid (show candsTo m (cand m) i (t + 1) = candsTo m (cand m) i t by rw [HCS.out]; unfold candR; rw [if_pos (.inr (.inl (by rw [HOK.out, hpd]; simp))), List.append_nil])
        clear hhs
        refine QW.region (by kernel_rfl) (by kernel_rfl) ?_
        (iterate 19 (refine QW.yes (by kernel_rfl) (fun K hK => ?_)
                     go_simp
                     first
                       | (with_reducible refine hK _ ?_)
                       | (apply Exists.intro
                          refine ⟨fun _ => ?_, hK _ ?_⟩
                          (first
                            | (go_at_call 27; exact cP _ _)
                            | (go_at_call 34; exact cH _ _)
                            | (go_at_call 35; exact cB _ _)))
                     clear hK K))
        (iterate 13 (refine QW.no (by kernel_rfl) ?_
                     (try simp only [Act.put])
                     (try simp only [List.setIfInBounds_toArray])
                     (repeat (first | simp only [List.set_cons_succ] | simp only [List.set_cons_zero]))))
        (refine QW.yes (by kernel_rfl) (fun K hK => ?_)
         go_simp
         first
           | (with_reducible refine hK _ ?_)
           | (apply Exists.intro
              refine ⟨fun _ => ?_, hK _ ?_⟩
              (first
                | (go_at_call 27; exact cP _ _)
                | (go_at_call 34; exact cH _ _)
                | (go_at_call 35; exact cB _ _)))
         clear hK K)
        refine QW.nil ?_
        intro _ hw'
        obtain ⟨⟨dq, osq⟩, hw''⟩ := hw'
        have HG := Lib.hid (show Below wo.heap.size wo (Go.Sort.grow (redrawn wo dq) osq) from below_regrown wo dq osq)
        subst hw''
        clear k0 k1 k2 k3 k4 k5 cH cB cP
        have HS2 := Lib.hid (HS.out.below HG.out)
        have HB2 := Lib.hid (HB.out.below HG.out)
        have HBB2 := Lib.hid (HBB.out.trans (HG.out.mono HBB.out.size))
        go_wp2_with (fail)
        go_roundg (m.col.length + 1 - (t + 1))
        case measure => omega
        case rel => exact ⟨t + 1, z + 1, _, _, rfl, rfl, HT1.out, by have := HZ.out; omega, by go_num, by rw [HN.out]; exact HS2.out, HB2.out, HBB2.out⟩
      have hpd : decide (0 ≤ pc) = true := by simpa using hp
      have hpf : decide (pc < 0) = false := by simpa using hp
      by_cases hr0 : r < 0
      · have hrt : decide (r < 0) = true := by simpa using hr0
        have HN := Lib.hid (show candsTo m (cand m) i (t + 1) = candsTo m (cand m) i t by rw [HCS.out]; unfold candR; rw [if_pos (.inr (.inr (by rw [HRR.out]; exact hr0))), List.append_nil])
        clear hhs
        refine QW.region (by kernel_rfl) (by kernel_rfl) ?_
        (iterate 33 (refine QW.yes (by kernel_rfl) (fun K hK => ?_)
                     go_simp
                     first
                       | (with_reducible refine hK _ ?_)
                       | (apply Exists.intro
                          refine ⟨fun _ => ?_, hK _ ?_⟩
                          (first
                            | (go_at_call 27; exact cP _ _)
                            | (go_at_call 34; exact cH _ _)
                            | (go_at_call 35; exact cB _ _)))
                     clear hK K))
        refine QW.nil ?_
        intro _ hw'
        obtain ⟨⟨dq, osq⟩, hw''⟩ := hw'
        have HG := Lib.hid (show Below wo.heap.size wo (Go.Sort.grow (redrawn wo dq) osq) from below_regrown wo dq osq)
        subst hw''
        clear k0 k1 k2 k3 k4 k5 cH cB cP
        have HS2 := Lib.hid (HS.out.below HG.out)
        have HB2 := Lib.hid (HB.out.below HG.out)
        have HBB2 := Lib.hid (HBB.out.trans (HG.out.mono HBB.out.size))
        go_wp2_with (fail)
        go_roundg (m.col.length + 1 - (t + 1))
        case measure => omega
        case rel => exact ⟨t + 1, z + 1, _, _, rfl, rfl, HT1.out, by have := HZ.out; omega, by go_num, by rw [HN.out]; exact HS2.out, HB2.out, HBB2.out⟩
      have hrf : decide (r < 0) = false := by simpa using hr0
      obtain ⟨a, ha⟩ : ∃ a, (bestL m).take i ++ z :: greedy m (opn m.row.length) (m.row.length - (i + 1)) (i + 1) nx = a := ⟨_, rfl⟩
      obtain ⟨c, hca⟩ : ∃ c, (totC m a).1 = c := ⟨_, rfl⟩
      have HCR := Lib.hid (show candR m i z = [(a, c)] by
        unfold candR
        rw [if_neg, ← HQ.out, HNXE.out, ha, hca]
        rintro (h | h | h)
        · rw [HLB.out] at h; simp [h] at hzt
        · rw [HOK.out, hhs, hpd] at h; simp at h
        · rw [HRR.out] at h; exact hr0 h)
      have HN := Lib.hid (show candsTo m (cand m) i (t + 1) = candsTo m (cand m) i t ++ [(a, c)] by rw [HCS.out, HCR.out])
      have hcm : (a, c) ∈ cand m i z := by rw [cand_eq hok hlt (choices_mem.2 ⟨hz1, hz2⟩), HCR.out]; simp
      have hsnd : sound m.row.length (a, c) := by
        have := (cand_mem hok hlt (choices_mem.2 ⟨hz1, hz2⟩) hcm).1
        exact ⟨alls_len this, alls_ge this⟩
      have hcb := cand_bound hok hcm
      have hc0 : 0 ≤ c := hcb.1
      have hc1 : c ≤ 40000000000 := hcb.2
      have HSN := Lib.hid hsnd
      have htl' : ((bestL m).take i).length = i := by rw [List.length_take, HBL.out]; omega
      have hbg : ((bestL m).take i ++ [z]).length = i + 1 := by rw [List.length_append, htl']; rfl
      have HCHN := Lib.hid (show chain m 0 0 ((bestL m).take i ++ [z]) from (chain_snoc m z _ 0 0).2 ⟨chain_take m _ _ _ _ (best_chain hok), choices_mem.2 ⟨hz1, hz2⟩, by rw [htl', Nat.zero_add, HOK.out, hhs, hpd]; rfl⟩)
      have HM0 := Lib.hid (show 0 ≤ mn (costs m (opn m.row.length) (m.row.length - ((bestL m).take i ++ [z]).length) ((bestL m).take i ++ [z]).length (msk 0 ((bestL m).take i ++ [z]))) by rw [hbg, msk_snoc, HRR.out]; omega)
      have HAE := Lib.hid (show ((bestL m).take i ++ [z]) ++ greedy m (opn m.row.length) (m.row.length - ((bestL m).take i ++ [z]).length) ((bestL m).take i ++ [z]).length (msk 0 ((bestL m).take i ++ [z])) = a by
        rw [hbg, msk_snoc, ← HQ.out, HNXE.out, ← ha]; simp)
      have HTL := Lib.hid htl'
      have HBG := Lib.hid hbg
      have HCC := Lib.hid hca
      clear hhs ha hcm hsnd hcb htl' hbg hca HCR HCS
      refine QW.region (by kernel_rfl) (by kernel_rfl) ?_
      (iterate 33 (refine QW.yes (by kernel_rfl) (fun K hK => ?_)
                   go_simp
                   first
                     | (with_reducible refine hK _ ?_)
                     | (apply Exists.intro
                        refine ⟨fun _ => ?_, hK _ ?_⟩
                        (first
                          | (go_at_call 27; exact cP _ _)
                          | (go_at_call 34; exact cH _ _)
                          | (go_at_call 35; exact cB _ _)))
                   clear hK K))
      refine QW.nil ?_
      intro _ hw'
      obtain ⟨⟨dq, osq⟩, hw''⟩ := hw'
      have HG := Lib.hid (show Below wo.heap.size wo (Go.Sort.grow (redrawn wo dq) osq) from below_regrown wo dq osq)
      subst hw''
      clear k0 k1 k2 k3 k4 k5 cH cB cP
      obtain ⟨wd, hwd⟩ : ∃ wd, Go.Sort.grow (redrawn wo dq) osq = wd := ⟨_, rfl⟩
      rw [hwd] at HG ⊢
      clear hwd
      have HS2 := Lib.hid (HS.out.below HG.out)
      have HB2 := Lib.hid (HB.out.below HG.out)
      have HBB2 := Lib.hid (HBB.out.trans (HG.out.mono HBB.out.size))
      clear HG HS HB HBB HCELL HPR HHAS HBT hs3 hs4 hs5 hs6 hpd hpf hrf
      have hcap : i ≤ co := by omega
      have z64 : i64ok z := by unfold i64ok; omega
      have hwd' : w.heap.size + 1 ≤ wd.heap.size := lt_of_heap HB2.out.1
      have hbl1 : (([] : List Int).length + ((bestL m).take i).length) * 8 ≤ 140737488355328 := by rw [List.length_nil, HTL.out]; omega
      have hbl2 : ([] : List Int).length + ((bestL m).take i).length ≤ maxLen := by rw [List.length_nil, HTL.out]; unfold maxLen; omega
      have hbl3 : (((bestL m).take i).length + 1) * 8 ≤ 140737488355328 := by rw [HTL.out]; omega
      have hbl4 : ((bestL m).take i).length + 1 ≤ maxLen := by rw [HTL.out]; unfold maxLen; omega
      have HSBT := Lib.hid (show SlIs tInt (· < wd.heap.size) wd (.slice (some ⟨bo, oo, none⟩) i co) ((bestL m).take i) from ((HSB.out wd HBB2.out).take (by rw [HBL.out]; omega)).keep (fun _ h => Nat.lt_of_lt_of_le h HBB2.out.size) (SameOn.refl _ _))
      go_wp2_with (first
        | (at_builtin
           refine wpList_append_old (.tmp 70) (.tmp 73) rfl 23 rfl slInt (B := wd.heap.size) rfl (OwnSl.nil tInt 3 wd.heap.size _) rfl HSBT.out hbl1 hbl2 (by simp) ?_
           intro v4 w4 ho4 hg4 hb4
           have HO4 := Lib.hid (show OwnSl tInt 3 wd.heap.size w4 v4 ((bestL m).take i) from ho4)
           have HB4 := Lib.hid hb4
           have hz4 : wd.heap.size ≤ w4.heap.size := hb4.size
           clear ho4 hg4 hb4)
        | (at_builtin
           refine wpList_append_one (.tmp 75) (.tmp 77) rfl 23 rfl slInt rfl HO4.out rfl (S := fun _ => False) (y := z) ⟨rfl, z64⟩ (fun _ h => h.elim) hbl3 hbl4 hz4 ?_
           intro v5 w5 ho5 hg5 hb5
           have HO5 := Lib.hid ho5
           have HB5 := Lib.hid (HB4.out.trans hb5)
           obtain ⟨x0, x1, x2, xf⟩ := blk3 (HB2.out.below HB5.out).1
           clear ho5 hg5 hb5))
      have HBX5 := Lib.hid (HB2.out.below HB5.out)
      have HBB5 := Lib.hid (HBB2.out.trans (HB5.out.mono HBB2.out.size))
      refine (complete_any m hok _ _ _ _ _ (HM.out.step HBX5.out.2) _ g bs (HRT.out _ HBB5.out) _ HO5.out.sl HCHN.out (by rw [HBG.out]; omega) HM0.out).mono ?_
      rintro e w6 ⟨⟨v6, rfl, ho6⟩, hb6⟩
      rw [HAE.out] at ho6
      have HO6 := Lib.hid (own_low (B' := w.heap.size + 1) ho6 (by have := HBX5.out.2.size; have := lt_of_heap HBX5.out.1; omega))
      have HB6 := Lib.hid (HB5.out.trans (hb6.mono HB5.out.size))
      have HBX6 := Lib.hid (HB2.out.below HB6.out)
      have HBB6 := Lib.hid (HBB2.out.trans (HB6.out.mono HBB2.out.size))
      clear ho6 hb6 HO5 HB5 HBX5 HBB5 HM0 HAE HCHN HSBT HO4 HB4 x0 x1 x2 xf
      obtain ⟨x0, x1, x2, xf⟩ := blk3 HBX6.out.1
      go_wp2_with (fail)
      refine (totalR_any m a _ _ _ _ w6 (HM.out.step HBX6.out.2) HO6.out.sl).mono ?_
      rintro e w7 ⟨rfl, hb7⟩
      rw [HCC.out]
      have HO7 := Lib.hid (HO6.out.below hb7)
      have HBX7 := Lib.hid (HBX6.out.below hb7)
      have HB7 := Lib.hid (HB6.out.trans (hb7.mono HB6.out.size))
      have HBB7 := Lib.hid (HBB6.out.trans (hb7.mono HBB6.out.size))
      have HS7 := Lib.hid (HS2.out.below HB7.out)
      obtain ⟨e2, he2⟩ : ∃ e, (totC m a).2 = e := ⟨_, rfl⟩
      rw [he2]
      clear hb7 HO6 HBX6 HB6 HBB6 x0 x1 x2 xf he2 HS2 HB2 HBB2
      obtain ⟨s, hs⟩ : ∃ s, (candsTo m (cand m) i t).foldl pick none = s := ⟨_, rfl⟩
      have HFO := Lib.hid (show (candsTo m (cand m) i (t + 1)).foldl pick none = pick s (a, c) by rw [HN.out, List.foldl_append, hs]; rfl)
      rw [hs] at HS7
      clear hs
      have HTAKE := Lib.hid (show pick s (a, c) = some (a, c) → SecR (w.heap.size + 1) m.row.length w7 ((candsTo m (cand m) i (t + 1)).foldl pick none) v6 (.int .i64 c) from fun h => by
        rw [HFO.out, h]; exact ⟨HO7.out, rfl, HSN.out, hc0, hc1⟩)
      have HKEEP := Lib.hid (show pick s (a, c) = s → SecR (w.heap.size + 1) m.row.length w7 ((candsTo m (cand m) i (t + 1)).foldl pick none) v0 l0 from fun h => by
        rw [HFO.out, h]; exact HS7.out)
      clear HFO HN
      cases s with
      | none =>
        obtain ⟨rfl, rfl⟩ := HS7.out
        have HR := Lib.hid (HTAKE.out rfl)
        go_wp2_with (fail)
        go_roundg (m.col.length + 1 - (t + 1))
        case measure => omega
        case rel => exact ⟨t + 1, z + 1, _, _, rfl, rfl, HT1.out, by have := HZ.out; omega, by go_num, HR.out, HBX7.out, HBB7.out⟩
      | some f =>
        obtain ⟨hof, rfl, hsf, hf0, hf1⟩ := HS7.out
        have HOF := Lib.hid hof
        have HSF := Lib.hid hsf
        clear hof hsf
        obtain ⟨fl, hfl⟩ : ∃ fl, f.2 = fl := ⟨_, rfl⟩
        have HFL := Lib.hid hfl
        rw [hfl] at hf0 hf1 ⊢
        clear hfl
        have hfn : decide (fl < 0) = false := by simp; omega
        have hcase : c < fl ∨ (c = fl ∧ befC a f.1 = true) ∨ (c = fl ∧ befC a f.1 = false) ∨ fl < c := by
          cases befC a f.1 <;> simp <;> omega
        have HBEF := Lib.hid (beforeR_any a f.1 v6 v0 w7 HO7.out.sl HOF.out.sl HSN.out.2 HSF.out.2)
        rcases hcase with q | ⟨q, q2⟩ | ⟨q, q2⟩ | q
        · have HR := Lib.hid (HTAKE.out (pick_yes (.inl (by rw [HFL.out]; exact q))))
          go_wp2_with (fail)
          go_roundg (m.col.length + 1 - (t + 1))
          case measure => omega
          case rel => exact ⟨t + 1, z + 1, _, _, rfl, rfl, HT1.out, by have := HZ.out; omega, by go_num, HR.out, HBX7.out, HBB7.out⟩
        · have HR := Lib.hid (HTAKE.out (pick_yes (.inr ⟨by rw [HFL.out]; exact q, q2⟩)))
          rw [q2] at HBEF
          have hq1 : (c == fl) = true := by simpa using q
          have hq2 : decide (c < fl) = false := by simp; omega
          clear q q2
          go_wp2_with (go_at_call 36; refine (HBEF.out).mono ?_; rintro e w8 ⟨rfl, n8', rfl⟩)
          go_roundg (m.col.length + 1 - (t + 1))
          case measure => omega
          case rel => exact ⟨t + 1, z + 1, _, _, rfl, rfl, HT1.out, by have := HZ.out; omega, by go_num, HR.out.below (bl_drewN (Below.refl _ _) _), HBX7.out.drewN _, bl_drewN HBB7.out _⟩
        · have HR := Lib.hid (HKEEP.out (pick_no (by rw [HFL.out, q2]; simp; omega)))
          rw [q2] at HBEF
          have hq1 : (c == fl) = true := by simpa using q
          have hq2 : decide (c < fl) = false := by simp; omega
          clear q q2
          go_wp2_with (go_at_call 36; refine (HBEF.out).mono ?_; rintro e w8 ⟨rfl, n8', rfl⟩)
          go_roundg (m.col.length + 1 - (t + 1))
          case measure => omega
          case rel => exact ⟨t + 1, z + 1, _, _, rfl, rfl, HT1.out, by have := HZ.out; omega, by go_num, by rw [← HFL.out]; exact HR.out.below (bl_drewN (Below.refl _ _) _), HBX7.out.drewN _, bl_drewN HBB7.out _⟩
        · have HR := Lib.hid (HKEEP.out (pick_no (by rw [HFL.out]; simp; omega)))
          have hq1 : (c == fl) = false := by simp; omega
          have hq2 : decide (c < fl) = false := by simp; omega
          go_wp2_with (fail)
          go_roundg (m.col.length + 1 - (t + 1))
          case measure => omega
          case rel => exact ⟨t + 1, z + 1, _, _, rfl, rfl, HT1.out, by have := HZ.out; omega, by go_num, by rw [← HFL.out]; exact HR.out, HBX7.out, HBB7.out⟩
end Go.Proofs.Ytepceaoccnmkiaa
