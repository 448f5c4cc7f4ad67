/-
  Layer 6 (match): the walk of Second.
-/
import Derived.Test.YtepceaoccnmkiaaMatchBest
import Derived.Laws.CopyOwn
namespace Go.Tw.Match
open Go.RowKit Go.Tw
def candsTo (m : Mat) (f : Nat → Int → List (List Int × Int)) (i t : Nat) : List (List Int × Int) := (List.range i).flatMap (fun i => (colsR m.col.length).flatMap (f i)) ++ ((colsR m.col.length).take t).flatMap (f i)
theorem candsTo_zero (m : Mat) (f : Nat → Int → List (List Int × Int)) : candsTo m f 0 0 = [] := rfl
theorem candsTo_succ (m : Mat) (f : Nat → Int → List (List Int × Int)) (i : Nat) {t : Nat} (h : t < (colsR m.col.length).length) : candsTo m f i (t + 1) = candsTo m f i t ++ f i ((t : Int) - 1) := by
  unfold candsTo
  rw [List.take_succ_eq_append_getElem h, List.flatMap_append, List.append_assoc, colsR_get h]
  simp
theorem candsTo_next (m : Mat) (f : Nat → Int → List (List Int × Int)) (i t : Nat) (h : m.col.length + 1 ≤ t) : candsTo m f i t = candsTo m f (i + 1) 0 := by
  unfold candsTo
  rw [List.take_of_length_le (by rw [colsR_len]; exact h), List.range_succ, List.flatMap_append]
  simp
theorem candsTo_all (m : Mat) : candsTo m (cand m) m.row.length 0 = cands m := by
  unfold candsTo cands colsR
  simp
theorem Cells.spliced {w' : World} {g : Nat} {t : TypeId} {A : Array Value} {l p : List Int} (h : w'.heap[g]? = some (.cells (splice A.toList 0 (p.map (Value.int .i64))).toArray t (0, 0))) (hA : ∀ k (h : k < l.length), A[k]? = some (.int .i64 l[k])) (hp : p.length ≤ l.length) : Cells w' g (p ++ l.drop p.length) := by
  refine ⟨_, t, h, fun k hk => ?_⟩
  have hk' : k < l.length := by simp at hk; omega
  unfold splice
  rw [List.getElem?_toArray, List.take_zero, List.nil_append]
  by_cases q : k < p.length
  · rw [List.getElem?_append_left (by simpa using q), List.getElem_append_left q]
    simp [q]
  · have e : (p ++ l.drop p.length)[k] = l[k] := by
      rw [List.getElem_append_right (by omega), List.getElem_drop]
      congr 1
      omega
    rw [List.getElem?_append_right (by simpa using q), List.length_map, Nat.zero_add, List.getElem?_drop, e, show p.length + (k - p.length) = k by omega]
    have := hA k hk'
    rw [← Array.getElem?_toList] at this
    exact this
theorem add_off (b o j : Nat) : (⟨b, o, none⟩ : Addr).add j = ⟨b, o + j, none⟩ := by
  unfold Addr.add
  split
  · rename_i h
    have h0 : j = 0 := by simpa using h
    subst h0
    rfl
  · rfl
theorem pick_none (c : List Int × Int) : pick none c = some c := rfl
theorem pick_yes {f c : List Int × Int} (h : c.2 < f.2 ∨ (c.2 = f.2 ∧ befC c.1 f.1 = true)) : pick (some f) c = some c := by show (if _ then _ else _) = _; rw [if_pos h]
theorem pick_no {f c : List Int × Int} (h : ¬ (c.2 < f.2 ∨ (c.2 = f.2 ∧ befC c.1 f.1 = true))) : pick (some f) c = some f := by show (if _ then _ else _) = _; rw [if_neg h]
end Go.Tw.Match
namespace Go.Proofs.Ytepceaoccnmkiaa
open Go.RowKit Go.Tw Go.Tw.Match
/-- what Second has found so far -/
def SecSt (B n : Nat) (w : World) (s : Option (List Int × Int)) (v l o : Value) : Prop := match s with
  | none => v = .slice none 0 0 ∧ l = .int .i64 0 ∧ o = .bool false
  | some f => OwnSl tInt 3 B w v f.1 ∧ l = .int .i64 f.2 ∧ o = .bool true ∧ sound n f ∧ 0 ≤ f.2 ∧ f.2 ≤ 40000000000
theorem SecSt.below {B n : Nat} {w w' : World} {s : Option (List Int × Int)} {v l o : Value} (h : SecSt B n w s v l o) (hb : Below w.heap.size w w') : SecSt B n w' s v l o := by
  cases s with
  | none => exact h
  | some f => exact ⟨h.1.below hb, h.2⟩
def SecE (B : Nat) (m : Mat) (w : World) (e : Ending) : Prop := ∃ v, e = .returned (.tuple #[v, .int .i64 (secC m).2.1, .bool (secC m).2.2]) ∧ OwnSl tInt 3 B w v (secC m).1
theorem sec_end {B n : Nat} {m : Mat} (h : chk m = 0) {w : World} {v l o : Value} {s : Option (List Int × Int)} (hs : s = secO m) (hS : SecSt B n w s v l o) : SecE B m w (.returned (.tuple #[v, l, o])) := by
  subst hs
  unfold SecE secC
  rw [if_neg (by simp [h])]
  cases hq : secO m with
  | none =>
    rw [hq] at hS
    obtain ⟨rfl, rfl, rfl⟩ := hS
    exact ⟨_, rfl, OwnSl.nil _ _ _ _⟩
  | some f =>
    rw [hq] at hS
    obtain ⟨h1, rfl, rfl, -⟩ := hS
    exact ⟨_, rfl, h1⟩
theorem sec_bad {B : Nat} {m : Mat} (h : chk m ≠ 0) {w : World} : SecE B m w (.returned (.tuple #[.slice none 0 0, .int .i64 0, .bool false])) := by
  have e : secC m = ([], 0, false) := by unfold secC; rw [if_pos h]
  exact ⟨_, by rw [e], by rw [e]; exact OwnSl.nil _ _ _ _⟩
set_option maxRecDepth 100000 in
set_option maxHeartbeats 4000000 in
theorem second_any (m : Mat) (vc vr vl : Value) (w : World) (h : MatIs w vc vr vl m) :
    Calls Try.prog 21 #[.agg #[vc, vr, vl]] w fun e w' => SecE w.heap.size m w' e ∧ Below w.heap.size w w' := by
  have HM := Lib.hid h
  obtain ⟨ac, cc, bc, oc, ar, cr, br, or, al, cl, bl, ol, rfl, rfl, rfl, hm⟩ := h.at
  obtain ⟨cc1, cc2, cr1, cr2, cl1, cl2, -, -, -⟩ := hm
  clear h
  have HB := Lib.hid (BoxW.start w (.slice ac m.cost.length cc) (.slice ar m.row.length cr) (.slice al m.col.length cl))
  by_cases hc : chk m = 0
  case neg =>
    have HT := Lib.hid hc
    have hcn : (chk m != 0) = true := by rw [bne_iff_ne]; exact hc
    have HBC := Lib.hid (show bestC m = ([], 0, chk m) by unfold bestC; rw [if_pos hc])
    clear hc
    go_enter Try.func21, Try.ntmps21
    go_wp2_with (fail)
    refine (best_any m _ _ _ _ (HM.out.step (bl_alloc (Below.refl _ _) _))).mono ?_
    rintro e w1 ⟨⟨v1, rfl, -⟩, hb1⟩
    rw [HBC.out]
    have HB1 := Lib.hid (HB.out.below hb1); clear hb1
    go_wp2
    go_ret3
    exact ⟨sec_bad HT.out, HB1.out.2⟩
  have hok := chk_ok.1 hc
  have HT := Lib.hid hc
  have HBC := Lib.hid (show bestC m = (bestL m, mn (costs m (opn m.row.length) m.row.length 0 0), 0) by unfold bestC; rw [if_neg (by simp [hc])])
  clear hc
  have n8 := hok.n8
  have c8 := hok.c8
  go_enter Try.func21, Try.ntmps21
  go_wp2_with (fail)
  refine (best_any m _ _ _ _ (HM.out.step (bl_alloc (Below.refl _ _) _))).mono ?_
  rintro e w1 ⟨⟨v1, rfl, ho1⟩, hb1⟩
  rw [HBC.out] at ho1 ⊢
  have HB1 := Lib.hid (HB.out.below hb1)
  have HO1 := Lib.hid ho1
  clear hb1 ho1 HB
  obtain ⟨ao, co, bo, oo, rfl, co1, co2, hio⟩ := Go.Tw.Match.ints_at HO1.out.sl
  unfold maxLen at co2
  have HIO := Lib.hid hio
  have hbl := best_len hok
  rw [hbl] at co1 ⊢
  have HBL := Lib.hid hbl
  clear hio hbl
  go_wp2
  go_loopg [28, 8, 9, 10] m.row.length (fun g' ix v l o wr => ∃ (i : Nat) (v0 l0 o0 : Value), v0 = v ∧ l0 = l ∧ o0 = o ∧ i + g' = m.row.length ∧ ix = .int .i64 i ∧ SecSt (w.heap.size + 1) m.row.length wr ((candsTo m (cand m) i 0).foldl pick none) v0 l0 o0 ∧ BoxW w (.slice ac m.cost.length cc) (.slice ar m.row.length cr) (.slice al m.col.length cl) wr ∧ Below w1.heap.size w1 wr)
  case atStart => exact ⟨0, _, _, _, rfl, rfl, rfl, by omega, rfl, ⟨rfl, rfl, rfl⟩, HB1.out, Below.refl _ _⟩
  case round =>
    obtain ⟨i, v0, l0, o0, rfl, rfl, rfl, hi, rfl, hS, hbx, hbb⟩ := hrel
    have HS := Lib.hid hS
    have HB := Lib.hid hbx
    have HBB := Lib.hid hbb
    clear hS hbx hbb
    by_cases hlt : i < m.row.length
    case neg =>
      obtain rfl : i = m.row.length := by omega
      have HE := Lib.hid (sec_end HT.out (by rw [candsTo_all]; rfl) HS.out)
      have hid' : decide ((m.row.length : Int) < (m.row.length : Int)) = false := by simp
      clear hlt hi
      go_wp2
      go_ret3
      exact ⟨by obtain ⟨v, h1, h2⟩ := HE.out; exact ⟨v, h1, own_low h2 (by omega)⟩, HB.out.2⟩
    have i0 : (0 : Int) ≤ (i : Int) := by omega
    have i1 : (i : Int) < (m.row.length : Int) := by omega
    go_wp2
    go_loopg [12, 8, 9, 10] (m.col.length + 1) (fun g' jx v l o wi => ∃ (t : Nat) (z : Int) (v0 l0 o0 : Value), v0 = v ∧ l0 = l ∧ o0 = o ∧ t + g' = m.col.length + 1 ∧ z = (t : Int) - 1 ∧ jx = .int .i64 z ∧ SecSt (w.heap.size + 1) m.row.length wi ((candsTo m (cand m) i t).foldl pick none) v0 l0 o0 ∧ BoxW w (.slice ac m.cost.length cc) (.slice ar m.row.length cr) (.slice al m.col.length cl) wi ∧ Below w1.heap.size w1 wi)
    case atStart => exact ⟨0, -1, _, _, _, rfl, rfl, rfl, by omega, rfl, rfl, HS.out, HB.out, HBB.out⟩
    case round =>
      clear HS HB HBB
      obtain ⟨wo, rfl⟩ : ∃ wo : World, wo = wr := ⟨_, rfl⟩
      obtain ⟨t, z, v0, l0, o0, rfl, rfl, rfl, ht, hz, rfl, hS, hbx, hbb⟩ := hrel
      have HS := Lib.hid hS
      have HB := Lib.hid hbx
      have HBB := Lib.hid hbb
      have HZ := Lib.hid hz
      clear hS hbx hbb
      obtain ⟨x0, x1, x2, xf⟩ := blk3 HB.out.1
      by_cases htl : t < m.col.length + 1
      case neg =>
        obtain rfl : z = (m.col.length : Int) := by omega
        have hcd : decide ((m.col.length : Int) < (m.col.length : Int)) = false := by simp
        have HS2 := Lib.hid (show SecSt (w.heap.size + 1) m.row.length wo ((candsTo m (cand m) (i + 1) 0).foldl pick none) v0 l0 o0 by
          rw [← candsTo_next m (cand m) i t (by omega)]; exact HS.out)
        clear hz htl ht
        go_wp2
        go_roundg (m.row.length - (i + 1))
        case measure => omega
        case rel => exact ⟨i + 1, _, _, _, rfl, rfl, rfl, by omega, by go_num, HS2.out, HB.out, HBB.out⟩
      have hcl : t < (colsR m.col.length).length := by rw [colsR_len]; exact htl
      have HCS := Lib.hid (candsTo_succ m (cand m) i hcl)
      rw [← hz] at HCS
      have hz1 : -1 ≤ z := by omega
      have hz2 : z < (m.col.length : Int) := by omega
      have HT1 := Lib.hid (show t + 1 + (m.col.length + 1 - (t + 1)) = m.col.length + 1 by omega)
      clear hz hcl
      obtain ⟨hlb, HLB⟩ : ∃ h : i < (bestL m).length, Hid ((bestL m).getD i 0 = (bestL m)[i]) := ⟨by rw [HBL.out]; exact hlt, Lib.hid (by rw [List.getD_eq_getElem?_getD, List.getElem?_eq_getElem (by rw [HBL.out]; exact hlt)]; rfl)⟩
      obtain ⟨rfl, hbo, y0, -⟩ := HIO.out _ HBB.out i hlb
      obtain ⟨bi, hbi⟩ : ∃ bi, (bestL m)[i] = bi := ⟨_, rfl⟩
      rw [hbi] at y0 HLB
      clear hbi
      by_cases hzb : z = bi
      · have hzt : (z == bi) = true := by simpa using hzb
        have HN := Lib.hid (show candsTo m (cand m) i (t + 1) = candsTo m (cand m) i t by rw [HCS.out]; unfold cand; rw [if_pos (by rw [HLB.out]; exact hzb), List.append_nil])
        clear hzb
        go_wp2
        go_roundg (m.col.length + 1 - (t + 1))
        case measure => omega
        case rel => exact ⟨t + 1, z + 1, _, _, _, rfl, rfl, rfl, HT1.out, by have := HZ.out; omega, by go_num, by rw [HN.out]; exact HS.out, HB.out, HBB.out⟩
      have hzt : (z == bi) = false := by simpa using hzb
      have HMo := Lib.hid (HM.out.step HB.out.2)
      go_wp2_with (fail)
      refine (free_any m _ _ _ _ HMo.out n8).mono ?_
      rintro e w2 ⟨⟨g, rfl, hg, hcl⟩, hb2⟩
      rw [List.length_replicate]
      have HB2 := Lib.hid hb2
      obtain ⟨A, tA, hA, hAl⟩ := hcl
      have HA := Lib.hid (show w2.heap[g]? = some (.cells A.toList.toArray tA (0, 0)) from hA)
      have HAL := Lib.hid hAl
      clear hb2 hA hAl x0 x1 x2 xf y0
      have hlen : ((bestL m).take i).length = i := by rw [List.length_take, HBL.out]; omega
      have hlA : i ≤ A.toList.length := by
        rcases Nat.eq_zero_or_pos i with h | h
        · omega
        · have := HAL.out (i - 1) (by simp; omega)
          have := (Array.getElem?_eq_some_iff.1 this).1
          simp; omega
      have HLEN := Lib.hid hlen
      clear hlen
      obtain ⟨cs, hcs⟩ : ∃ cs, ((bestL m).take i).map (Value.int .i64) = cs := ⟨_, rfl⟩
      have C1 := Lib.hid (show cs.length = Nat.min i m.row.length by rw [← hcs, List.length_map, HLEN.out]; exact (Nat.min_eq_left (by omega)).symm)
      have C2 := Lib.hid (show ∀ j v, cs[j]? = some v → w2.cell? ((⟨bo, oo, none⟩ : Addr).add j) = some v from fun j v hv => by
        rw [← hcs] at hv
        have hj : j < i := by
          have := (List.getElem?_eq_some_iff.1 hv).1
          rw [List.length_map, HLEN.out] at this
          exact this
        have hjb : j < (bestL m).length := by rw [HBL.out]; omega
        obtain ⟨-, -, c, -⟩ := HIO.out w2 (HBB.out.trans (HB2.out.mono HBB.out.size)) j hjb
        rw [show (⟨bo, oo, none⟩ : Addr).add j = ⟨bo, oo + j, none⟩ from add_off bo oo j, c, ← hv]
        simp [hj, hjb])
      have C3 := Lib.hid (show 0 + cs.length ≤ A.toList.length by rw [← hcs, List.length_map, HLEN.out]; omega)
      have C4 := Lib.hid (show ∀ v ∈ cs, v.oneCell' = true by
        intro v hv
        rw [← hcs] at hv
        obtain ⟨x, -, rfl⟩ := List.mem_map.1 hv
        rfl)
      have HCSQ := Lib.hid hcs
      clear hcs hlA
      go_wp2_with (
        with_reducible refine wpList_copy_splice rfl (.tmp 46) (.tmp 49) 23 23 rfl 3 Try.underlying23 (by kernel_rfl) _ _ _ _ _ _ rfl rfl g 0 A.toList tA HA.out cs C1.out (fun _ => ⟨rfl, _, rfl, C2.out⟩) C3.out C4.out wo.heap.size wo HB2.out hg ?_
        intro w3 hg3 hb3
        have HG3 := Lib.hid (show Cells w3 g (((bestL m).take i) ++ (opn m.row.length).drop i) by
          have h := hg3.out
          rw [← HCSQ.out] at h
          have := Cells.spliced (l := opn m.row.length) h HAL.out (by rw [HLEN.out]; simp [opn]; omega)
          rw [HLEN.out] at this
          exact this)
        have HB3 := Lib.hid hb3
        have s0 := HG3.out.cell (k := i) (by rw [List.length_append, HLEN.out]; simp [opn]; omega)
        have s1 := HG3.out.free i
        obtain ⟨x0, x1, x2, xf⟩ := blk3 (HB.out.below HB3.out).1
        have hgn1 : ¬ g = w.heap.size := by have := lt_of_heap HB.out.1; omega
        have hgn2 : ¬ w.heap.size = g := by have := lt_of_heap HB.out.1; omega
        clear hg3 hb3 xf)
      have HG4 := Lib.hid (HG3.out.setR (i := i) (x := z) (l' := pinL m.row.length (bestL m) i z) rfl)
      have HB4 := Lib.hid (bl_set (p := ⟨g, i, none⟩) HB3.out (.int .i64 z) hg)
      have HBX4 := Lib.hid (HB.out.below HB4.out)
      obtain ⟨w4, hw4⟩ : ∃ w4, w3.setCell ⟨g, i, none⟩ (.int .i64 z) = w4 := ⟨_, rfl⟩
      rw [hw4] at HG4 HB4 HBX4 ⊢
      clear hw4 s0 s1 HA HAL HB2 C1 C2 C3 C4 HCSQ HG3 HB3 x0 x1 x2
      have HPL := Lib.hid (pinL_len (n := m.row.length) (best := bestL m) (i := i) (j := z) (by omega) HBL.out)
      have HSL := Lib.hid (show SlIs tInt (· < w4.heap.size) w4 (.slice (some ⟨g, 0, none⟩) m.row.length m.row.length) (pinL m.row.length (bestL m) i z) by
        have hgl := HG4.out.lt
        have hran := alls_ge (best_spec hok).1
        have := Cells.sl HG4.out (cap := m.row.length) (fun x hx => by
          unfold pinL at hx
          rcases List.mem_or_eq_of_mem_set hx with q | rfl
          · rcases List.mem_append.1 q with q | q
            · have h1 := hran x (List.mem_of_mem_take q)
              have h2 := (choices_mem.1 (((chain_iff m _ _ _).1 (best_chain hok)).1 x (List.mem_of_mem_take q))).2
              unfold i64ok; omega
            · have := List.mem_of_mem_drop q
              unfold opn at this
              rw [(List.mem_replicate.1 this).2]; unfold i64ok; omega
          · unfold i64ok; omega) (by rw [HPL.out]; exact Nat.le_refl _) (by unfold maxLen; omega)
        rw [HPL.out] at this
        exact this.keep (fun k hk => by show k < _; rw [hk]; exact hgl) (SameOn.refl _ _))
      clear HG4
      refine (build_any m hok (pinL m.row.length (bestL m) i z) _ _ _ _ _ (HM.out.step HBX4.out.2) HSL.out HPL.out).mono ?_
      rintro e w5 ⟨hbu, hb5⟩
      obtain ⟨p, rfl, ht5⟩ := TabOf.mk' (HM.out.step HBX4.out.2) HSL.out HPL.out hbu hb5
      have HT5 := Lib.hid ht5
      have HB5 := Lib.hid (HB4.out.trans (hb5.mono HB4.out.size))
      have HBX5 := Lib.hid (HBX4.out.below hb5)
      clear hbu hb5 ht5 HSL HBX4 HB4
      go_wp2_with (fail)
      refine (HT5.out.first hok).mono ?_
      rintro e w6 ⟨hf6, hb6⟩
      have HT6 := Lib.hid (HT5.out.below hb6)
      have HB6 := Lib.hid (HB5.out.trans (hb6.mono HB5.out.size))
      have HBX6 := Lib.hid (HBX5.out.below hb6)
      have HBB6 := Lib.hid (HBB.out.trans (HB6.out.mono HBB.out.size))
      have hsz5 := HBX5.out.2.size
      have hsl5 := lt_of_heap HBX5.out.1
      obtain ⟨gL, cL, b, all, z0, z1, z2, z3, z4, z5⟩ := HT6.out.read
      obtain ⟨c, hc⟩ : ∃ c, mn (costs m (pinL m.row.length (bestL m) i z) m.row.length 0 0) = c := ⟨_, rfl⟩
      rw [hc] at z2
      have n0 : (0 : Int) < (m.row.length : Int) + 1 := by omega
      have a0 : (0 : Int) < (all : Int) := by omega
      have hcr := mn_hi hok (pinL m.row.length (bestL m) i z) m.row.length 0 0
      rw [hc] at hcr
      have HCC := Lib.hid hc
      obtain ⟨x0, x1, x2, xf⟩ := blk3 HBX6.out.1
      have HS6 := Lib.hid (HS.out.below HB6.out)
      clear hb6 HB5 HT5 HBX5 hc
      have hnz : ¬ z = (bestL m).getD i 0 := by rw [HLB.out]; simpa using hzt
      have HNZ := Lib.hid hnz
      clear hnz
      by_cases hneg : c < 0
      · have HN := Lib.hid (show candsTo m (cand m) i (t + 1) = candsTo m (cand m) i t by rw [HCS.out]; unfold cand; rw [if_neg HNZ.out, if_pos (by rw [HCC.out]; exact hneg), List.append_nil])
        unfold FirstE at hf6
        rw [if_pos (by rw [HCC.out]; exact hneg)] at hf6
        subst hf6
        go_wp2
        go_roundg (m.col.length + 1 - (t + 1))
        case measure => omega
        case rel => exact ⟨t + 1, z + 1, _, _, _, rfl, rfl, rfl, HT1.out, by have := HZ.out; omega, by go_num, by rw [HN.out]; exact HS6.out, HBX6.out, HBB6.out⟩
      unfold FirstE at hf6
      rw [if_neg (by rw [HCC.out]; exact hneg)] at hf6
      obtain ⟨a, hga⟩ : ∃ a, greedy m (pinL m.row.length (bestL m) i z) m.row.length 0 0 = a := ⟨_, rfl⟩
      rw [hga] at hf6
      obtain ⟨va, rfl, hoa⟩ := hf6
      have HGA := Lib.hid hga
      have HOA := Lib.hid (own_low (B' := w.heap.size + 1) hoa (by omega))
      clear hga hoa
      have HN := Lib.hid (show candsTo m (cand m) i (t + 1) = candsTo m (cand m) i t ++ [(a, c)] by rw [HCS.out]; unfold cand; rw [if_neg HNZ.out, if_neg (by rw [HCC.out]; exact hneg), HGA.out, HCC.out])
      have hsnd : sound m.row.length (a, c) := by
        have hca : (a, c) ∈ cand m i z := by unfold cand; rw [if_neg HNZ.out, if_neg (by rw [HCC.out]; exact hneg), HGA.out, HCC.out]; simp
        have := (cand_mem hok hlt (choices_mem.2 ⟨hz1, hz2⟩) hca).1
        exact ⟨alls_len this, alls_ge this⟩
      have HSN := Lib.hid hsnd
      clear hsnd
      have hc0 : 0 ≤ c := by omega
      have hc1 : c ≤ 40000000000 := by omega
      obtain ⟨s, hs⟩ : ∃ s, (candsTo m (cand m) i t).foldl pick none = s := ⟨_, rfl⟩
      have HFO := Lib.hid (show (candsTo m (cand m) i (t + 1)).foldl pick none = pick s (a, c) by rw [HN.out, List.foldl_append, hs]; rfl)
      rw [hs] at HS6
      clear hs hcr
      have HTAKE := Lib.hid (show pick s (a, c) = some (a, c) → SecSt (w.heap.size + 1) m.row.length w6 ((candsTo m (cand m) i (t + 1)).foldl pick none) va (.int .i64 c) (.bool true) from fun h => by
        rw [HFO.out, h]; exact ⟨HOA.out, rfl, rfl, HSN.out, hc0, hc1⟩)
      have HKEEP := Lib.hid (show pick s (a, c) = s → SecSt (w.heap.size + 1) m.row.length w6 ((candsTo m (cand m) i (t + 1)).foldl pick none) v0 l0 o0 from fun h => by
        rw [HFO.out, h]; exact HS6.out)
      clear HS HFO HN HCS
      cases s with
      | none =>
        obtain ⟨rfl, rfl, rfl⟩ := HS6.out
        have HR := Lib.hid (HTAKE.out rfl)
        go_wp2
        go_roundg (m.col.length + 1 - (t + 1))
        case measure => omega
        case rel => exact ⟨t + 1, z + 1, _, _, _, rfl, rfl, rfl, HT1.out, by have := HZ.out; omega, by go_num, HR.out, HBX6.out, HBB6.out⟩
      | some f =>
        obtain ⟨hof, rfl, rfl, hsf, hf0, hf1⟩ := HS6.out
        have HOF := Lib.hid hof
        have HSF := Lib.hid hsf
        clear hof hsf
        obtain ⟨fl, hfl⟩ : ∃ fl, f.2 = fl := ⟨_, rfl⟩
        have HFL := Lib.hid hfl
        rw [hfl] at hf0 hf1 ⊢
        clear hfl
        have hcase : c < fl ∨ (c = fl ∧ befC a f.1 = true) ∨ (c = fl ∧ befC a f.1 = false) ∨ fl < c := by
          cases befC a f.1 <;> simp <;> omega
        have HBEF := Lib.hid (before_any a f.1 va v0 w6 HOA.out.sl HOF.out.sl (by rw [HSN.out.1, HSF.out.1]; exact Nat.le_refl _) HSN.out.2 HSF.out.2)
        rcases hcase with q | ⟨q, q2⟩ | ⟨q, q2⟩ | q
        · have HR := Lib.hid (HTAKE.out (pick_yes (.inl (by rw [HFL.out]; exact q))))
          go_wp2
          go_roundg (m.col.length + 1 - (t + 1))
          case measure => omega
          case rel => exact ⟨t + 1, z + 1, _, _, _, rfl, rfl, rfl, HT1.out, by have := HZ.out; omega, by go_num, HR.out, HBX6.out, HBB6.out⟩
        · have HR := Lib.hid (HTAKE.out (pick_yes (.inr ⟨by rw [HFL.out]; exact q, q2⟩)))
          rw [q2] at HBEF
          have hq1 : (c == fl) = true := by simpa using q
          have hq2 : decide (c < fl) = false := by simp; omega
          clear q q2
          go_wp2_with (go_at_call 33; refine (HBEF.out).mono ?_; rintro e w7 ⟨rfl, n7, rfl⟩)
          go_roundg (m.col.length + 1 - (t + 1))
          case measure => omega
          case rel => exact ⟨t + 1, z + 1, _, _, _, rfl, rfl, rfl, HT1.out, by have := HZ.out; omega, by go_num, HR.out.below (bl_drewN (Below.refl _ _) _), HBX6.out.drewN _, bl_drewN HBB6.out _⟩
        · have HR := Lib.hid (HKEEP.out (pick_no (by rw [HFL.out, q2]; simp; omega)))
          rw [q2] at HBEF
          have hq1 : (c == fl) = true := by simpa using q
          have hq2 : decide (c < fl) = false := by simp; omega
          clear q q2
          go_wp2_with (go_at_call 33; refine (HBEF.out).mono ?_; rintro e w7 ⟨rfl, n7, rfl⟩)
          go_roundg (m.col.length + 1 - (t + 1))
          case measure => omega
          case rel => exact ⟨t + 1, z + 1, _, _, _, rfl, rfl, rfl, HT1.out, by have := HZ.out; omega, by go_num, by rw [← HFL.out]; exact HR.out.below (bl_drewN (Below.refl _ _) _), HBX6.out.drewN _, bl_drewN HBB6.out _⟩
        · have HR := Lib.hid (HKEEP.out (pick_no (by rw [HFL.out]; simp; omega)))
          have hq1 : (c == fl) = false := by simp; omega
          have hq2 : decide (c < fl) = false := by simp; omega
          go_wp2
          go_roundg (m.col.length + 1 - (t + 1))
          case measure => omega
          case rel => exact ⟨t + 1, z + 1, _, _, _, rfl, rfl, rfl, HT1.out, by have := HZ.out; omega, by go_num, by rw [← HFL.out]; exact HR.out, HBX6.out, HBB6.out⟩
end Go.Proofs.Ytepceaoccnmkiaa
