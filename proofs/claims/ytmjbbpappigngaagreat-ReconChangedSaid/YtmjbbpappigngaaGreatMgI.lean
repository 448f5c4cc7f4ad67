/-
  Layer 44 (recon): the walk of the reference's amounts.
-/
import Derived.Test.YtmjbbpappigngaaGreatRecoC
import Derived.Sort.Walk0
import Derived.Test.YtmjbbpappigngaaGreatMgJ
import Derived.Test.YtmjbbpappigngaaGreatExcClmR
namespace Go.Tw.Exc
open Go.RowKit Go.Tw
/-- where a key belongs -/
def posK : List ByteArray → ByteArray → Nat
  | [], _ => 0
  | y :: L, x => if kb y < kb x then posK L x + 1 else 0
def insK (L : List ByteArray) (x : ByteArray) : List ByteArray := if L[posK L x]? = some x then L else L.take (posK L x) ++ x :: L.drop (posK L x)
def insAll (l : List Rec) : List ByteArray := l.foldl (fun L r => insK L r.key) []
theorem insAll_snoc (l : List Rec) (x : Rec) : insAll (l ++ [x]) = insK (insAll l) x.key := by unfold insAll; rw [List.foldl_append]; rfl
theorem posK_le : ∀ (L : List ByteArray) (x : ByteArray), posK L x ≤ L.length
  | [], _ => Nat.le_refl _
  | y :: L, x => by
    unfold posK
    split
    · have := posK_le L x; simp; omega
    · exact Nat.zero_le _
theorem posK_lt : ∀ {L : List ByteArray} {x : ByteArray} {t : Nat}, t < posK L x → ∀ ht : t < L.length, kb L[t] < kb x
  | [], _, _, _, ht => absurd ht (Nat.not_lt_zero _)
  | y :: L, x, 0, h, _ => by
    unfold posK at h
    split at h
    · rename_i q; exact q
    · exact absurd h (Nat.not_lt_zero _)
  | y :: L, x, t + 1, h, ht => by
    unfold posK at h
    split at h
    · simpa using posK_lt (L := L) (x := x) (t := t) (by omega) (by simpa using ht)
    · omega
theorem posK_at : ∀ {L : List ByteArray} {x : ByteArray} (h : posK L x < L.length), ¬ kb L[posK L x] < kb x
  | [], _, h => absurd h (Nat.not_lt_zero _)
  | y :: L, x, h => by
    by_cases q : kb y < kb x
    · have e : posK (y :: L) x = posK L x + 1 := by rw [posK, if_pos q]
      have h' : posK L x < L.length := by rw [e] at h; simpa using h
      have := posK_at h'
      simp only [e, List.getElem_cons_succ]
      exact this
    · have e : posK (y :: L) x = 0 := by rw [posK, if_neg q]
      simp only [e, List.getElem_cons_zero]
      exact q
end Go.Tw.Exc
namespace Go.Proofs.YtmjbbpappigngaaGreat
open Go.RowKit Go.Tw Go.Tw.Exc
theorem slStrS : SlT Tryz.prog 87 9 1 16 := SlT.of (z := .string ByteArray.empty) Tryz.underlying87 (by kernel_rfl) rfl (by decide)
theorem less_kb (a b : ByteArray) : Op.bytesLess a.toList b.toList = decide (kb a < kb b) := by
  rw [bytesLess_eq, ByteArray.toList_eq, ByteArray.toList_eq]
  rfl
theorem sl_emptyF {α : Type} {T : Ty α} {S S' : Nat → Prop} {w w' : World} {v : Value} (h : SlIs T S w v []) : SlIs T S' w' v [] := by
  obtain ⟨ao, cap, b, off, hv, h1, h2, h3, h4⟩ := h
  exact ⟨ao, cap, b, off, hv, h1, h2, h3, fun k hk => absurd hk (Nat.not_lt_zero _)⟩
theorem add_offF (b o j : Nat) : (⟨b, o, none⟩ : Addr).add j = ⟨b, o + j, none⟩ := by
  unfold Addr.add
  split
  · rename_i h
    have h0 : j = 0 := by simpa using h
    subst h0
    rfl
  · rfl
set_option maxRecDepth 100000 in
set_option maxHeartbeats 8000000 in
theorem amountsR_any (la lb : List Rec) (va vb : Value) (w : World) (ha : SlIs tRec (· < w.heap.size) w va la) (hb : SlIs tRec (· < w.heap.size) w vb lb) (h1 : la.length ≤ 1000) (h2 : lb.length ≤ 1000) :
    Calls Tryz.prog 59 #[va, vb] w fun e w' => (∃ v', e = .returned v' ∧ SlIs tStr (· < w'.heap.size) w' v' (insAll (la ++ lb))) ∧ Below w.heap.size w w' := by
  have HA := Lib.hid ha
  have HB := Lib.hid hb
  obtain ⟨x1, y1, _, _, rfl, -⟩ := id ha
  obtain ⟨z1, e1, _, _, rfl, -⟩ := id hb
  clear ha hb
  have HK0 := Lib.hid (show SlIs tStr (fun _ => True) (w.alloc (.cells #[] 9)) (.slice (some ⟨w.heap.size, 0, none⟩) 0 0) [] from SlIs.of_block (css := []) (l := []) (heap_alloc_new _ _) ⟨[], by rfl⟩ trivial trivial (Nat.le_refl _) (by decide))
  go_enter Tryz.func59, Tryz.ntmps59
  go_upto_region 2 with (fail)
  obtain ⟨w1, hw1⟩ : ∃ w1, w.alloc (.cells #[] 9) = w1 := ⟨_, rfl⟩
  rw [hw1] at HK0 ⊢
  have HB1 := Lib.hid (show Below w.heap.size w w1 from by rw [← hw1]; exact bl_alloc (Below.refl _ _) _)
  obtain ⟨k0, hk0⟩ : ∃ k, w.heap.size = k := ⟨_, rfl⟩
  clear hw1
  have o0 : OwnSl tRec 49 w1.heap.size (w1.alloc (.cells #[] 49)) (.slice (some ⟨w1.heap.size, 0, none⟩) 0 0) [] := OwnSl.lit (css := []) rfl trivial (Nat.le_refl _) (by decide)
  have HO0 := Lib.hid o0
  have HAa := Lib.hid (HA.out.step HB1.out)
  have HBa := Lib.hid (HB.out.step HB1.out)
  clear o0 hk0
  have hb1 : (([] : List Rec).length + la.length) * 48 ≤ 140737488355328 := by simp; omega
  have hb2 : ([] : List Rec).length + la.length ≤ maxLen := by unfold maxLen; simp; omega
  have hb3 : (([] ++ la : List Rec).length + lb.length) * 48 ≤ 140737488355328 := by simp; omega
  have hb4 : ([] ++ la : List Rec).length + lb.length ≤ maxLen := by unfold maxLen; simp; omega
  go_wp2_with (first
    | (at_builtin
       refine wpList_append_old (.tmp 11) (.tmp 12) rfl 27 rfl slRec rfl HO0.out rfl (HAa.out.keep (fun _ h => h) (.of_below (bl_alloc (Below.refl _ _) _))) hb1 hb2 (by simp) ?_
       intro v2 w2 ho2 hg2 hb2'
       have HO2 := Lib.hid ho2
       have HB2 := Lib.hid (show Below w1.heap.size w1 w2 from (bl_alloc (Below.refl _ _) _).trans hb2')
       have hz2 := HB2.out.size
       clear ho2 hg2 hb2')
    | (at_builtin
       refine wpList_append_old (.tmp 13) (.tmp 14) rfl 27 rfl slRec rfl HO2.out rfl (HBa.out.keep (fun _ h => h) (.of_below HB2.out)) hb3 hb4 hz2 ?_
       intro v3 w3 ho3 hg3 hb3'
       have HO3 := Lib.hid (show OwnSl tRec 49 w1.heap.size w3 v3 (la ++ lb) from ho3)
       have HB3 := Lib.hid (show Below w1.heap.size w1 w3 from HB2.out.trans hb3')
       obtain ⟨a3, c3, q3, -, -⟩ := HO3.out.form
       subst q3
       clear ho3 hg3 hb3'))
  have HSL := Lib.hid HO3.out.sl
  obtain ⟨aA, cA, bA, oA, eA, kA, mA, HAO⟩ := rec_open HSL.out
  simp only [Value.slice.injEq, true_and] at eA
  obtain ⟨rfl, rfl⟩ := eA
  have HAC := Lib.hid HAO
  unfold maxLen at mA
  have hK3 : SlIs tStr (· < w3.heap.size) w3 (.slice (some ⟨w.heap.size, 0, none⟩) 0 0) [] := sl_emptyF HK0.out
  have HK3 := Lib.hid hK3
  have HBW := Lib.hid (bl_trans HB1.out HB3.out)
  obtain ⟨all, hall⟩ : ∃ l, la ++ lb = l := ⟨_, rfl⟩
  have hll : all.length ≤ 2000 := by rw [← hall, List.length_append]; omega
  have hlen : la.length + lb.length = all.length := by rw [← hall, List.length_append]
  have HALL := Lib.hid hall
  rw [hall] at HAC kA
  rw [hlen]
  clear hall hlen hK3 HAO HSL HO3 HB3 HB2 HO2 hz2 HO0 HAa HBa hb1 hb2 hb3 hb4 HK0 HB1 HA HB
  go_loopg [7, 5] all.length (fun g i v wr => ∃ (k : Nat) (v0 : Value), v0 = v ∧ k + g = all.length ∧ i = .int .i64 k ∧ SlIs tStr (· < wr.heap.size) wr v0 (insAll (all.take k)) ∧ (insAll (all.take k)).length ≤ k ∧ Below w3.heap.size w3 wr)
  case atStart => exact ⟨0, _, rfl, by omega, rfl, HK3.out, Nat.le_refl _, Below.refl _ _⟩
  case round =>
    clear HK3
    obtain ⟨wo, rfl⟩ : ∃ wo : World, wo = wr := ⟨_, rfl⟩
    obtain ⟨k, v0, rfl, hk, rfl, hks, hkl, hb⟩ := hrel
    have HB := Lib.hid hb
    have HKS := Lib.hid hks
    obtain ⟨aK, cK, bK, oK, rfl, hk1, hk2, hkc⟩ := Go.Tw.strs_open hks
    have HKC := Lib.hid (fun w' (hb : Below wo.heap.size wo w') k h => hkc w' (.of_below hb) k h)
    unfold maxLen at hk2
    clear hks hb hkc
    by_cases hlt : k < all.length
    · obtain ⟨rfl, -, -, hok, d0, d1, d2, d3, d4⟩ := HAC.out _ (.of_below HB.out) k hlt
      have HT := Lib.hid (show insAll (all.take (k + 1)) = insK (insAll (all.take k)) all[k].key by rw [List.take_succ_eq_append_getElem hlt, insAll_snoc])
      obtain ⟨x, hx⟩ : ∃ x, all[k].key = x := ⟨_, rfl⟩
      rw [hx] at HT
      have hx' := hx
      clear d1
      obtain ⟨L, hL⟩ : ∃ L, insAll (all.take k) = L := ⟨_, rfl⟩
      rw [hL] at HT HKS HKC hkl hk1 ⊢
      have HXS := Lib.hid (show x.size ≤ maxLen by rw [← hx]; exact hok.key)
      have k0 : (0 : Int) ≤ (k : Int) := by omega
      have k1 : (k : Int) < (all.length : Int) := by omega
      have HPL := Lib.hid (fun t h1 h2 => posK_lt (L := L) (x := x) (t := t) h1 h2)
      have HPA := Lib.hid (fun h => posK_at (L := L) (x := x) h)
      have hple := posK_le L x
      have HIK := Lib.hid (show insK L x = if L[posK L x]? = some x then L else L.take (posK L x) ++ x :: L.drop (posK L x) from rfl)
      obtain ⟨p, hp⟩ : ∃ p, posK L x = p := ⟨_, rfl⟩
      rw [hp] at HPL hple HIK
      have HPA2 := Lib.hid (show ∀ h : p < L.length, ¬ kb L[p] < kb x from fun h => by subst hp; exact HPA.out h)
      clear hx hL hp HPA hok d0 d2 d3 d4
      go_wp2_with (fail)
      go_loopg [8] p (fun g j wi => ∃ t : Nat, t + g = p ∧ j = .int .i64 t ∧ Below wo.heap.size wo wi)
      case atStart => exact ⟨0, by omega, rfl, Below.refl _ _⟩
      case round =>
        obtain ⟨wi, rfl⟩ : ∃ wi : World, wi = wr := ⟨_, rfl⟩
        obtain ⟨t, ht, rfl, hwi⟩ := hrel
        have HWI := Lib.hid hwi
        obtain ⟨-, -, -, -, -, d1, -, -, -⟩ := HAC.out wi (.of_below (bl_trans HB.out hwi)) k hlt
        rw [hx'] at d1
        clear hwi
        by_cases htp : t < p
        · obtain ⟨rfl, -, -, e0, -⟩ := HKC.out wi HWI.out t (by omega)
          have HL1 := Lib.hid (HPL.out t htp (by omega))
          obtain ⟨y, hy⟩ : ∃ y, L[t] = y := ⟨_, rfl⟩
          rw [hy] at e0 HL1
          have hless : Op.bytesLess y.toList x.toList = true := by rw [less_kb]; exact decide_eq_true HL1.out
          have t0 : (0 : Int) ≤ (t : Int) := by omega
          have t1 : (t : Int) < (L.length : Int) := by omega
          clear hy
          go_wp2_with (go_quiet (fail))
          go_roundg (p - (t + 1))
          case measure => omega
          case rel => exact ⟨t + 1, by omega, by go_num, bl_drewN HWI.out _⟩
        · obtain rfl : t = p := by omega
          clear htp ht
          by_cases hpl : t < L.length
          · obtain ⟨rfl, -, -, e0, -⟩ := HKC.out wi HWI.out t hpl
            have HN0 := Lib.hid (HPA2.out hpl)
            obtain ⟨y, hy⟩ : ∃ y, L[t] = y := ⟨_, rfl⟩
            rw [hy] at e0 HN0
            have HYE := Lib.hid (show L[t]? = some y by rw [List.getElem?_eq_getElem hpl, hy])
            have hless : Op.bytesLess y.toList x.toList = false := by rw [less_kb]; exact decide_eq_false HN0.out
            have t0 : (0 : Int) ≤ (t : Int) := by omega
            have t1 : (t : Int) < (L.length : Int) := by omega
            clear hy
            by_cases hyx : y = x
            · have heq : (y.toList == x.toList) = true := by rw [str_eq]; exact decide_eq_true hyx
              have HIN := Lib.hid (show insAll (all.take (k + 1)) = L by rw [HT.out, HIK.out, HYE.out, if_pos (by rw [hyx])])
              clear hyx
              go_wp2_with (go_quiet (fail))
              go_roundg (all.length - (k + 1))
              case measure => omega
              case rel => exact ⟨k + 1, _, rfl, by omega, by go_num, by rw [HIN.out]; exact HKS.out.step (bl_drewN HWI.out _), by rw [HIN.out]; omega, bl_trans HB.out (bl_drewN HWI.out _)⟩
            · have heq : (y.toList == x.toList) = false := by rw [str_eq]; exact decide_eq_false hyx
              go_upto_region 10 with (go_quiet (fail))
              have HIN := Lib.hid (show insAll (all.take (k + 1)) = L.take t ++ x :: L.drop t by rw [HT.out, HIK.out, HYE.out, if_neg (by intro q; injection q with q; exact hyx q)])
              have hct : ¬ cK = t := by omega
              have HDRF := Lib.hid (show ∀ w', SlIs tStr (· < w'.heap.size) w' (.slice (some ⟨bK, oK, none⟩) L.length cK) L → SlIs tStr (· < w'.heap.size) w' (.slice (some ⟨bK, oK + t, none⟩) (L.length - t) (cK - t)) (L.drop t) from fun w' h => by
                have q := SlIs.drop (t := t) (k := t) h (by omega) (by show t = t * 1; omega)
                rw [if_neg hct, Option.map_some, add_offF] at q
                exact q)
              refine (fun (H : ∀ wy : World, Below wi.heap.size wi wy → Code.wp _ _ _ _ wy) => H _ (by (repeat (first | (with_reducible exact Below.refl _ _) | (with_reducible apply bl_drewN) | (with_reducible apply Below.drew))))) (fun wy hwy => ?_)
              have HWY := Lib.hid (bl_trans HWI.out hwy)
              have HXC := Lib.hid (show ∀ w', Below wy.heap.size wy w' → w'.cell? ⟨bA, oA + k * 5 + 1, none⟩ = some (.string x) from fun w' hw => by
                obtain ⟨-, -, -, -, -, q1, -, -, -⟩ := HAC.out w' (.of_below (bl_trans (bl_trans HB.out HWY.out) hw)) k hlt
                rw [hx'] at q1
                exact q1)
              have HKY := Lib.hid (HKS.out.step HWY.out)
              have o0 : OwnSl tStr 9 wy.heap.size (wy.alloc (.cells #[] 9)) (.slice (some ⟨wy.heap.size, 0, none⟩) 0 0) [] := OwnSl.lit (css := []) rfl trivial (Nat.le_refl _) (by decide)
              have HO0 := Lib.hid o0
              have htk : (L.take t).length = t := by rw [List.length_take]; omega
              have hb1 : (([] : List ByteArray).length + (L.take t).length) * 16 ≤ 140737488355328 := by rw [htk]; simp; omega
              have hb2 : ([] : List ByteArray).length + (L.take t).length ≤ maxLen := by rw [htk]; unfold maxLen; simp; omega
              have hb3 : (([] ++ L.take t : List ByteArray).length + 1) * 16 ≤ 140737488355328 := by rw [List.nil_append, htk]; omega
              have hb4 : ([] ++ L.take t : List ByteArray).length + 1 ≤ maxLen := by rw [List.nil_append, htk]; unfold maxLen; omega
              have hb5 : ((([] ++ L.take t) ++ [x] : List ByteArray).length + (L.drop t).length) * 16 ≤ 140737488355328 := by simp; omega
              have hb6 : (([] ++ L.take t) ++ [x] : List ByteArray).length + (L.drop t).length ≤ maxLen := by unfold maxLen; simp; omega
              have HTK := Lib.hid (show SlIs tStr (· < wy.heap.size) wy (.slice (some ⟨bK, oK, none⟩) t cK) (L.take t) from HKY.out.take (by omega))
              have HDR := Lib.hid (show SlIs tStr (· < wy.heap.size) wy (.slice (some ⟨bK, oK + t, none⟩) (L.length - t) (cK - t)) (L.drop t) from HDRF.out wy HKY.out)
              clear o0 hwy
              go_wp2_with (first
                | (at_builtin
                   refine wpList_append_old (.tmp 57) (.tmp 60) rfl 87 rfl slStrS rfl HO0.out rfl (HTK.out.keep (fun _ h => h) (.of_below (bl_alloc (Below.refl _ _) _))) hb1 hb2 (by simp) ?_
                   intro v5 w5 ho5 hg5 hb5'
                   have HO5 := Lib.hid ho5
                   have HB5 := Lib.hid (show Below wy.heap.size wy w5 from (bl_alloc (Below.refl _ _) _).trans hb5')
                   have hz5 := HB5.out.size
                   have x5 := HXC.out w5 HB5.out
                   clear ho5 hg5 hb5')
                | (at_builtin
                   refine wpList_append_one (.tmp 62) (.tmp 68) rfl 87 rfl slStrS rfl HO5.out rfl (S := fun _ => False) (y := x) ⟨rfl, HXS.out⟩ (fun _ h => h.elim) hb3 hb4 hz5 ?_
                   intro v6 w6 ho6 hg6 hb6'
                   have HO6 := Lib.hid ho6
                   have HB6 := Lib.hid (HB5.out.trans hb6')
                   have hz6 := HB6.out.size
                   clear ho6 hg6 hb6')
                | (at_builtin
                   refine wpList_append_old (.tmp 70) (.tmp 73) rfl 87 rfl slStrS rfl HO6.out rfl (HDR.out.keep (fun _ h => h) (.of_below HB6.out)) hb5 hb6 hz6 ?_
                   intro v7 w7 ho7 hg7 hb7'
                   have HO7 := Lib.hid (show OwnSl tStr 9 wy.heap.size w7 v7 (insAll (all.take (k + 1))) from by
                     rw [HIN.out]
                     have := ho7
                     simpa using this)
                   have HB7 := Lib.hid (HB6.out.trans hb7')
                   clear ho7 hg7 hb7'))
              all_goals
                go_roundg (all.length - (k + 1))
                case measure => omega
                case rel => exact ⟨k + 1, _, rfl, by omega, by go_num, HO7.out.sl, by rw [HIN.out]; simp; omega, bl_trans HB.out (bl_trans HWY.out HB7.out)⟩
          · have htL : t = L.length := by omega
            have hkd : decide (t < L.length) = false := decide_eq_false hpl
            have htl : t ≤ L.length := by omega
            have t0 : (0 : Int) ≤ (t : Int) := by omega
            have t1 : (t : Int) ≤ (L.length : Int) := by omega
            have HIN := Lib.hid (show insAll (all.take (k + 1)) = L.take t ++ x :: L.drop t by rw [HT.out, HIK.out, if_neg (by rw [List.getElem?_eq_none (by omega)]; intro q; cases q)])
            have HDRF := Lib.hid (show ∀ w', SlIs tStr (· < w'.heap.size) w' (.slice aK L.length cK) L → SlIs tStr (· < w'.heap.size) w' (.slice (if cK = t then aK else Option.map (fun x => x.add t) aK) (L.length - t) (cK - t)) (L.drop t) from fun w' h =>
              SlIs.drop (t := t) (k := t) h (by omega) (by show t = t * 1; omega))
            clear htL
            go_upto_region 10 with (go_quiet (fail))
            refine (fun (H : ∀ wy : World, Below wi.heap.size wi wy → Code.wp _ _ _ _ wy) => H _ (by (repeat (first | (with_reducible exact Below.refl _ _) | (with_reducible apply bl_drewN) | (with_reducible apply Below.drew))))) (fun wy hwy => ?_)
            have HWY := Lib.hid (bl_trans HWI.out hwy)
            have HXC := Lib.hid (show ∀ w', Below wy.heap.size wy w' → w'.cell? ⟨bA, oA + k * 5 + 1, none⟩ = some (.string x) from fun w' hw => by
              obtain ⟨-, -, -, -, -, q1, -, -, -⟩ := HAC.out w' (.of_below (bl_trans (bl_trans HB.out HWY.out) hw)) k hlt
              rw [hx'] at q1
              exact q1)
            have HKY := Lib.hid (HKS.out.step HWY.out)
            have o0 : OwnSl tStr 9 wy.heap.size (wy.alloc (.cells #[] 9)) (.slice (some ⟨wy.heap.size, 0, none⟩) 0 0) [] := OwnSl.lit (css := []) rfl trivial (Nat.le_refl _) (by decide)
            have HO0 := Lib.hid o0
            have htk : (L.take t).length = t := by rw [List.length_take]; omega
            have hb1 : (([] : List ByteArray).length + (L.take t).length) * 16 ≤ 140737488355328 := by rw [htk]; simp; omega
            have hb2 : ([] : List ByteArray).length + (L.take t).length ≤ maxLen := by rw [htk]; unfold maxLen; simp; omega
            have hb3 : (([] ++ L.take t : List ByteArray).length + 1) * 16 ≤ 140737488355328 := by rw [List.nil_append, htk]; omega
            have hb4 : ([] ++ L.take t : List ByteArray).length + 1 ≤ maxLen := by rw [List.nil_append, htk]; unfold maxLen; omega
            have hb5 : ((([] ++ L.take t) ++ [x] : List ByteArray).length + (L.drop t).length) * 16 ≤ 140737488355328 := by simp; omega
            have hb6 : (([] ++ L.take t) ++ [x] : List ByteArray).length + (L.drop t).length ≤ maxLen := by unfold maxLen; simp; omega
            have HTK := Lib.hid (show SlIs tStr (· < wy.heap.size) wy (.slice aK t cK) (L.take t) from HKY.out.take (by omega))
            have HDR := Lib.hid (show SlIs tStr (· < wy.heap.size) wy (.slice (if cK = t then aK else Option.map (fun x => x.add t) aK) (L.length - t) (cK - t)) (L.drop t) from HDRF.out wy HKY.out)
            clear o0 hwy
            go_wp2_with (first
              | (at_builtin
                 refine wpList_append_old (.tmp 57) (.tmp 60) rfl 87 rfl slStrS rfl HO0.out rfl (HTK.out.keep (fun _ h => h) (.of_below (bl_alloc (Below.refl _ _) _))) hb1 hb2 (by simp) ?_
                 intro v5 w5 ho5 hg5 hb5'
                 have HO5 := Lib.hid ho5
                 have HB5 := Lib.hid (show Below wy.heap.size wy w5 from (bl_alloc (Below.refl _ _) _).trans hb5')
                 have hz5 := HB5.out.size
                 have x5 := HXC.out w5 HB5.out
                 clear ho5 hg5 hb5')
              | (at_builtin
                 refine wpList_append_one (.tmp 62) (.tmp 68) rfl 87 rfl slStrS rfl HO5.out rfl (S := fun _ => False) (y := x) ⟨rfl, HXS.out⟩ (fun _ h => h.elim) hb3 hb4 hz5 ?_
                 intro v6 w6 ho6 hg6 hb6'
                 have HO6 := Lib.hid ho6
                 have HB6 := Lib.hid (HB5.out.trans hb6')
                 have hz6 := HB6.out.size
                 clear ho6 hg6 hb6')
              | (at_builtin
                 refine wpList_append_old (.tmp 70) (.tmp 73) rfl 87 rfl slStrS rfl HO6.out rfl (HDR.out.keep (fun _ h => h) (.of_below HB6.out)) hb5 hb6 hz6 ?_
                 intro v7 w7 ho7 hg7 hb7'
                 have HO7 := Lib.hid (show OwnSl tStr 9 wy.heap.size w7 v7 (insAll (all.take (k + 1))) from by
                   rw [HIN.out]
                   have := ho7
                   simpa using this)
                 have HB7 := Lib.hid (HB6.out.trans hb7')
                 clear ho7 hg7 hb7'))
            all_goals
              go_roundg (all.length - (k + 1))
              case measure => omega
              case rel => exact ⟨k + 1, _, rfl, by omega, by go_num, HO7.out.sl, by rw [HIN.out]; simp; omega, bl_trans HB.out (bl_trans HWY.out HB7.out)⟩
    · obtain rfl : k = all.length := by omega
      have hkd : decide ((all.length : Int) < (all.length : Int)) = false := by simp
      have HR := Lib.hid (show SlIs tStr (· < wo.heap.size) wo (.slice aK (insAll (all.take all.length)).length cK) (insAll (la ++ lb)) from by
        have := HKS.out
        rw [List.take_length] at this ⊢
        rw [HALL.out]
        exact this)
      clear hk hlt
      go_wp2_with (fail)
      go_ret
      exact ⟨⟨_, rfl, HR.out⟩, bl_trans HBW.out HB.out⟩
end Go.Proofs.YtmjbbpappigngaaGreat
/-
  Layer 44 (recon) in plain Lean: insertion gives the keys in their order.
-/
namespace Go.Tw.Exc
open Go.RowKit Go.Tw
theorem insK_nil (x : ByteArray) : insK [] x = [x] := rfl
theorem insK_cons (y : ByteArray) (L : List ByteArray) (x : ByteArray) : insK (y :: L) x = if kb y < kb x then y :: insK L x else if y = x then y :: L else x :: y :: L := by
  by_cases h : kb y < kb x
  · have e : posK (y :: L) x = posK L x + 1 := by rw [posK, if_pos h]
    unfold insK
    rw [e, if_pos h, List.getElem?_cons_succ, List.take_succ_cons, List.drop_succ_cons]
    split
    · rfl
    · rfl
  · have e : posK (y :: L) x = 0 := by rw [posK, if_neg h]
    unfold insK
    rw [e, if_neg h, List.getElem?_cons_zero, List.take_zero, List.drop_zero]
    by_cases q : y = x
    · rw [if_pos (by rw [q]), if_pos q]
    · rw [if_neg (by intro w; injection w with w; exact q w), if_neg q]; rfl
theorem insK_mem : ∀ (L : List ByteArray) (x z : ByteArray), z ∈ insK L x ↔ z ∈ L ∨ z = x
  | [], x, z => by rw [insK_nil]; simp
  | y :: L, x, z => by
    rw [insK_cons]
    split
    · rw [List.mem_cons, insK_mem L x z, List.mem_cons]
      constructor
      · rintro (q | q | q)
        · exact .inl (.inl q)
        · exact .inl (.inr q)
        · exact .inr q
      · rintro ((q | q) | q)
        · exact .inl q
        · exact .inr (.inl q)
        · exact .inr (.inr q)
    · split
      · rename_i q
        subst q
        rw [List.mem_cons]
        constructor
        · exact .inl
        · rintro (q | q)
          · exact q
          · exact .inl q
      · simp only [List.mem_cons]
        constructor
        · rintro (q | q | q)
          · exact .inr q
          · exact .inl (.inl q)
          · exact .inl (.inr q)
        · rintro ((q | q) | q)
          · exact .inr (.inl q)
          · exact .inr (.inr q)
          · exact .inl q
def Srt (L : List ByteArray) : Prop := L.Pairwise fun a b => kb a < kb b
theorem kb_gt {a b : ByteArray} (h : ¬ kb a < kb b) (hne : a ≠ b) : kb b < kb a := by
  refine Classical.byContradiction fun q => hne (kb_inj ?_)
  exact List.le_antisymm (q : kb a ≤ kb b) (h : kb b ≤ kb a)
theorem insK_srt : ∀ {L : List ByteArray} (x : ByteArray), Srt L → Srt (insK L x)
  | [], x, _ => by rw [insK_nil]; exact List.pairwise_singleton _ _
  | y :: L, x, h => by
    have h' := List.pairwise_cons.1 h
    rw [insK_cons]
    split
    · rename_i q
      refine List.pairwise_cons.2 ⟨fun z hz => ?_, insK_srt x h'.2⟩
      rcases (insK_mem L x z).1 hz with w | w
      · exact h'.1 z w
      · rw [w]; exact q
    · rename_i q
      split
      · exact h
      · rename_i q2
        have hx := kb_gt q q2
        refine List.pairwise_cons.2 ⟨fun z hz => ?_, h⟩
        rcases List.mem_cons.1 hz with w | w
        · rw [w]; exact hx
        · exact List.lt_trans hx (h'.1 z w)
theorem insAll_spec (l : List Rec) : Srt (insAll l) ∧ ∀ y, y ∈ insAll l ↔ ∃ r ∈ l, r.key = y := by
  refine snocInd (p := fun l => Srt (insAll l) ∧ ∀ y, y ∈ insAll l ↔ ∃ r ∈ l, r.key = y) ⟨List.Pairwise.nil, fun y => by simp [insAll]⟩ ?_ l
  rintro l x ⟨h1, h2⟩
  rw [insAll_snoc]
  refine ⟨insK_srt _ h1, fun y => ?_⟩
  rw [insK_mem, h2]
  constructor
  · rintro (⟨r, hr, e⟩ | e)
    · exact ⟨r, by simp [hr], e⟩
    · exact ⟨x, by simp, e.symm⟩
  · rintro ⟨r, hr, e⟩
    rcases List.mem_append.1 hr with hr | hr
    · exact .inl ⟨r, hr, e⟩
    · rw [List.mem_singleton.1 hr] at e
      exact .inr e.symm
theorem keysU_srt (la lb : List Rec) : Srt (keysU la lb) := by
  have tr : ∀ a b c : List UInt8, leB a b = true → leB b c = true → leB a c = true := fun a b c h1 h2 => by simp only [leB, decide_eq_true_eq] at *; exact List.le_trans h1 h2
  have tot : ∀ a b : List UInt8, (leB a b || leB b a) = true := fun a b => by simp only [leB, Bool.or_eq_true, decide_eq_true_eq]; exact List.le_total a b
  have h1 := List.pairwise_mergeSort tr tot ((fkeys (la ++ lb)).map kb)
  have h2 : (((fkeys (la ++ lb)).map kb).mergeSort leB).Nodup := (List.mergeSort_perm _ _).nodup_iff.2 (by
    rw [List.Nodup, List.pairwise_map]
    exact (fkeys_nodup (la ++ lb)).imp fun hne e => hne (kb_inj e))
  rw [← keysU_kb] at h1 h2
  rw [List.Nodup, List.pairwise_map] at h2
  rw [List.pairwise_map] at h1
  refine (h1.and h2).imp fun {a b} h => ?_
  obtain ⟨q1, q2⟩ := h
  simp only [leB, decide_eq_true_eq] at q1
  refine Classical.byContradiction fun w => q2 ?_
  exact List.le_antisymm q1 (w : kb b ≤ kb a)
theorem keysU_mem_iff (la lb : List Rec) (s : ByteArray) : s ∈ keysU la lb ↔ ∃ r ∈ la ++ lb, r.key = s := by
  rw [← fkeys_mem]
  unfold keysU
  rw [List.mem_map]
  constructor
  · rintro ⟨x, hx, rfl⟩
    rw [List.mem_mergeSort] at hx
    obtain ⟨t, ht, rfl⟩ := List.mem_map.1 hx
    rw [ofB_kb]; exact ht
  · intro h
    exact ⟨kb s, List.mem_mergeSort.2 (List.mem_map.2 ⟨s, h, rfl⟩), ofB_kb s⟩
theorem srt_nodup {L : List ByteArray} (h : Srt L) : L.Nodup := h.imp fun {a b} q e => by rw [e] at q; exact List.lt_irrefl _ q
theorem insAll_keys (la lb : List Rec) : insAll (la ++ lb) = keysU la lb := by
  obtain ⟨h1, h2⟩ := insAll_spec (la ++ lb)
  have hp : (insAll (la ++ lb)).Perm (keysU la lb) := (List.perm_ext_iff_of_nodup (srt_nodup h1) (srt_nodup (keysU_srt la lb))).2 fun y => by rw [h2, keysU_mem_iff]
  refine List.Perm.eq_of_pairwise (le := fun a b => kb a < kb b) (fun a b _ _ q1 q2 => ?_) h1 (keysU_srt la lb) hp
  exact absurd (List.lt_trans q1 q2) (List.lt_irrefl _)
end Go.Tw.Exc
/-
  Layer 44 (recon): the walks of the reference's Differ and Agree.
-/
namespace Go.Proofs.YtmjbbpappigngaaGreat
open Go.RowKit Go.Tw Go.Tw.Exc
set_option maxRecDepth 100000 in
set_option maxHeartbeats 8000000 in
theorem differR_any (a b : Par) (a1 a2 a3 b1 b2 b3 : Value) (w : World) (ha : ParOk (· < w.heap.size) w a a1 a2 a3) (hb : ParOk (· < w.heap.size) w b b1 b2 b3) (hsa : Small44 a.ours) (hsb : Small44 b.thr) :
    Calls Tryz.prog 33 #[.agg #[.string a.nm, .int .i64 a.out, .int .i64 a.inn, a1, a2, a3], .agg #[.string b.nm, .int .i64 b.out, .int .i64 b.inn, b1, b2, b3]] w
      fun e w' => (∃ v', e = .returned v' ∧ OwnSl tDif 63 w.heap.size w' v' (differC a.ours b.thr)) ∧ Below w.heap.size w w' := by
  have HA := Lib.hid ha
  have HB := Lib.hid hb
  obtain ⟨x1, y1, _, _, rfl, -⟩ := id ha.wt
  obtain ⟨x2, y2, _, _, rfl, -⟩ := id ha.ours
  obtain ⟨x3, y3, _, _, rfl, -⟩ := id ha.thr
  obtain ⟨z1, e1, _, _, rfl, -⟩ := id hb.wt
  obtain ⟨z2, e2, _, _, rfl, -⟩ := id hb.ours
  obtain ⟨z3, e3, _, _, rfl, -⟩ := id hb.thr
  have HSA := Lib.hid hsa
  have HSB := Lib.hid hsb
  clear ha hb hsa hsb
  go_enter Tryz.func33, Tryz.ntmps33
  go_wp2_with (fail)
  refine (amountsR_any a.ours b.thr _ _ _ (HA.out.ours.step (bl_alloc (bl_alloc (Below.refl _ _) _) _)) (HB.out.thr.step (bl_alloc (bl_alloc (Below.refl _ _) _) _)) HSA.out.1 HSB.out.1).mono ?_
  rintro e w2 ⟨⟨v2, rfl, hk⟩, hb2⟩
  rw [insAll_keys] at hk
  have HK := Lib.hid hk
  have HX0 := Lib.hid (Go.Tw.Below.at_old hb2 (alloc2_0 w _ _))
  have HX1 := Lib.hid (Go.Tw.Below.at_old hb2 (alloc2_1 w _ _))
  have HB2 := Lib.hid (bl_trans (bl_alloc (bl_alloc (Below.refl w.heap.size w) _) _) hb2)
  have hz2 := HB2.out.size
  have o0 : OwnSl tDif 63 w2.heap.size (w2.alloc (.cells #[] 63)) (.slice (some ⟨w2.heap.size, 0, none⟩) 0 0) [] := OwnSl.lit (css := []) rfl trivial (Nat.le_refl _) (by decide)
  have HO0 := Lib.hid o0
  have HLN := Lib.hid (show (keysU a.ours b.thr).length ≤ 2000 by
    have := keysU_len a.ours b.thr
    have := HSA.out.1
    have := HSB.out.1
    omega)
  have HDT := Lib.hid (fun k h => differ_take a.ours b.thr (k := k) h)
  have HDE := Lib.hid (show (keysU a.ours b.thr).filterMap (difOf a.ours b.thr) = differC a.ours b.thr from rfl)
  have HAM1 := Lib.hid (fun s => amount_bound s a.ours HSA.out.2)
  have HAM2 := Lib.hid (fun s => amount_bound s b.thr HSB.out.2)
  obtain ⟨U, hU⟩ : ∃ U, keysU a.ours b.thr = U := ⟨_, rfl⟩
  rw [hU] at HK HLN HDT HDE
  obtain ⟨aU, cU, bU, oU, rfl, hU1, hU2, hoU⟩ := Go.Tw.strs_open HK.out
  unfold maxLen at hU2
  have HOU := Lib.hid hoU
  clear hk hb2 o0 hoU hU HK
  go_wp2_with (fail)
  go_loopg [7, 6] U.length (fun g i v wr => ∃ (k : Nat) (v0 : Value), v0 = v ∧ k + g = U.length ∧ i = .int .i64 k ∧ OwnSl tDif 63 w2.heap.size wr v0 ((U.take k).filterMap (difOf a.ours b.thr)) ∧ Below w2.heap.size w2 wr)
  case atStart => exact ⟨0, _, rfl, by omega, rfl, HO0.out, bl_alloc (Below.refl _ _) _⟩
  case round =>
    clear HO0
    obtain ⟨k, v0, rfl, hk, rfl, hown, hb⟩ := hrel
    have HO := Lib.hid hown
    obtain ⟨ao, co, rfl, ho1, ho2⟩ := hown.form
    unfold maxLen at ho2
    have HB' := Lib.hid hb
    have hsb := hb.size
    clear hown hb
    by_cases hlt : k < U.length
    · obtain ⟨rfl, -, -, -, hss⟩ := HOU.out _ (.of_below HB'.out) k hlt
      obtain ⟨s, hs⟩ : ∃ s, U[k] = s := ⟨_, rfl⟩
      have hUl := HLN.out
      have HT := Lib.hid (HDT.out k hlt)
      rw [hs] at hss HT
      have HKC := Lib.hid (show ∀ w', Below wr.heap.size wr w' → w'.cell? ⟨bU, oU + k, none⟩ = some (.string s) from fun w' hw => by
        obtain ⟨-, -, -, d0, -⟩ := HOU.out w' (.of_below (bl_trans HB'.out hw)) k hlt
        rw [hs] at d0; exact d0)
      have HXA := Lib.hid (box6D (Go.Tw.Below.at_old HB'.out HX0.out))
      have HXB := Lib.hid (box6D (Go.Tw.Below.at_old HB'.out HX1.out))
      have k0 : (0 : Int) ≤ (k : Int) := by omega
      have k1 : (k : Int) < (U.length : Int) := by omega
      have HKG := Lib.hid (show k + 1 + (U.length - (k + 1)) = U.length by omega)
      obtain ⟨c1, hc1⟩ : ∃ c, amountC a.ours s = c := ⟨_, rfl⟩
      obtain ⟨c2, hc2⟩ : ∃ c, amountC b.thr s = c := ⟨_, rfl⟩
      have HWF := Lib.hid (show i64ok c1 ∧ i64ok c2 from by
        have q1 := HAM1.out s
        have q2 := HAM2.out s
        have q3 := HSA.out.1
        have q4 := HSB.out.1
        rw [hc1] at q1
        rw [hc2] at q2
        unfold i64ok
        constructor <;> constructor <;> omega)
      have HDO := Lib.hid (show difOf a.ours b.thr s = if c1 = c2 then none else some ⟨s, c1, c2⟩ by unfold difOf; rw [hc1, hc2])
      have HC1 := Lib.hid (show ∀ w', Below wr.heap.size wr w' → Calls Tryz.prog 16 #[.slice x2 a.ours.length y2, .string s] w' fun e w'' => e = .returned (.int .i64 c1) ∧ w' = w'' from fun w' hw => by
        rw [← hc1]; exact amount_any a.ours s _ w' (HA.out.ours.step (bl_trans (bl_trans HB2.out HB'.out) hw)) HSA.out.1 HSA.out.2)
      have HC2 := Lib.hid (show ∀ w', Below wr.heap.size wr w' → Calls Tryz.prog 16 #[.slice z3 b.thr.length e3, .string s] w' fun e w'' => e = .returned (.int .i64 c2) ∧ w' = w'' from fun w' hw => by
        rw [← hc2]; exact amount_any b.thr s _ w' (HB.out.thr.step (bl_trans (bl_trans HB2.out HB'.out) hw)) HSB.out.1 HSB.out.2)
      have HSS := Lib.hid hss
      have hol : ((U.take k).filterMap (difOf a.ours b.thr)).length ≤ 2000 := by
        have q1 := List.length_filterMap_le (difOf a.ours b.thr) (U.take k)
        rw [List.length_take] at q1
        omega
      obtain ⟨l, hl⟩ : ∃ l, (U.take k).filterMap (difOf a.ours b.thr) = l := ⟨_, rfl⟩
      rw [hl] at HO HT hol ho1 ⊢
      have HW := Lib.hid (Below.refl wr.heap.size wr)
      clear hs hc1 hc2 hss hl
      go_upto_region 6 with (fail)
      go_cut [8, 9] (fun v8 v9 wx => v8 = .int .i64 c1 ∧ v9 = .int .i64 c2 ∧ Below wr.heap.size wr wx)
      case first =>
        refine wp_region_E 14 (fun w' => Below wr.heap.size wr w') (by kernel_rfl) ((by (repeat (first | (with_reducible exact Below.refl _ _) | (with_reducible exact HW.out) | (with_reducible apply bl_drewN) | (with_reducible apply bl_alloc) | (with_reducible apply Below.drew))); done)) (fun hHeld => ?_)
        refine wpE_take (i := 0) (v := ?_) rfl (by kernel_rfl) (fun _ _ _ h => h) (Or.inl ⟨by kernel_rfl, ?_⟩) (by assumption) ?_
        rotate_left
        focus (intro w9 hS9; (try dsimp only at hS9); go_simp; (try with_reducible rfl))
        (try simp only [Act.put])
        (try simp only [List.setIfInBounds_toArray])
        (repeat (first | simp only [List.set_cons_succ] | simp only [List.set_cons_zero]))
        refine wpE_take (i := 1) (v := ?_) rfl (by kernel_rfl) (fun _ _ _ h => h) (Or.inl ⟨by kernel_rfl, ?_⟩) (by assumption) ?_
        rotate_left
        focus (intro w9 hS9; obtain ⟨z0, z1, z2, z3, z4, z5⟩ := HXA.out w9 hS9; clear hS9; go_simp; (try with_reducible rfl))
        (try simp only [Act.put])
        (try simp only [List.setIfInBounds_toArray])
        (repeat (first | simp only [List.set_cons_succ] | simp only [List.set_cons_zero]))
        refine wpE_take (i := 2) (v := ?_) rfl (by kernel_rfl) (fun _ _ _ h => h) (Or.inl ⟨by kernel_rfl, ?_⟩) (by assumption) ?_
        rotate_left
        focus (intro w9 hS9; (try dsimp only at hS9); go_simp; (try with_reducible rfl))
        (try simp only [Act.put])
        (try simp only [List.setIfInBounds_toArray])
        (repeat (first | simp only [List.set_cons_succ] | simp only [List.set_cons_zero]))
        refine wpE_take (i := 3) (v := ?_) rfl (by kernel_rfl) (fun _ _ _ h => h) (Or.inl ⟨by kernel_rfl, ?_⟩) (by assumption) ?_
        rotate_left
        focus (intro w9 hS9; (try dsimp only at hS9); go_simp; (try with_reducible rfl))
        (try simp only [Act.put])
        (try simp only [List.setIfInBounds_toArray])
        (repeat (first | simp only [List.set_cons_succ] | simp only [List.set_cons_zero]))
        refine wpE_take (i := 4) (v := ?_) rfl (by kernel_rfl) (fun _ _ _ h => h) (Or.inl ⟨by kernel_rfl, ?_⟩) (by assumption) ?_
        rotate_left
        focus (intro w9 hS9; (try dsimp only at hS9); go_simp; (try with_reducible rfl))
        (try simp only [Act.put])
        (try simp only [List.setIfInBounds_toArray])
        (repeat (first | simp only [List.set_cons_succ] | simp only [List.set_cons_zero]))
        refine wpE_take (i := 5) (v := ?_) rfl (by kernel_rfl) (fun _ _ _ h => h) (Or.inl ⟨by kernel_rfl, ?_⟩) (by assumption) ?_
        rotate_left
        focus (intro w9 hS9; have z0 := HKC.out w9 hS9; clear hS9; go_simp; (try with_reducible rfl))
        (try simp only [Act.put])
        (try simp only [List.setIfInBounds_toArray])
        (repeat (first | simp only [List.set_cons_succ] | simp only [List.set_cons_zero]))
        refine wpE_take (i := 7) (v := ?_) rfl (by kernel_rfl) (fun _ _ _ h => h) (Or.inl ⟨by kernel_rfl, ?_⟩) (by assumption) ?_
        rotate_left
        focus (intro w9 hS9; (try dsimp only at hS9); go_simp; (try with_reducible rfl))
        (try simp only [Act.put])
        (try simp only [List.setIfInBounds_toArray])
        (repeat (first | simp only [List.set_cons_succ] | simp only [List.set_cons_zero]))
        refine wpE_take (i := 8) (v := ?_) rfl (by kernel_rfl) (fun _ _ _ h => h) (Or.inl ⟨by kernel_rfl, ?_⟩) (by assumption) ?_
        rotate_left
        focus (intro w9 hS9; obtain ⟨z0, z1, z2, z3, z4, z5⟩ := HXB.out w9 hS9; clear hS9; go_simp; (try with_reducible rfl))
        (try simp only [Act.put])
        (try simp only [List.setIfInBounds_toArray])
        (repeat (first | simp only [List.set_cons_succ] | simp only [List.set_cons_zero]))
        refine wpE_take (i := 9) (v := ?_) rfl (by kernel_rfl) (fun _ _ _ h => h) (Or.inl ⟨by kernel_rfl, ?_⟩) (by assumption) ?_
        rotate_left
        focus (intro w9 hS9; (try dsimp only at hS9); go_simp; (try with_reducible rfl))
        (try simp only [Act.put])
        (try simp only [List.setIfInBounds_toArray])
        (repeat (first | simp only [List.set_cons_succ] | simp only [List.set_cons_zero]))
        refine wpE_take (i := 10) (v := ?_) rfl (by kernel_rfl) (fun _ _ _ h => h) (Or.inl ⟨by kernel_rfl, ?_⟩) (by assumption) ?_
        rotate_left
        focus (intro w9 hS9; (try dsimp only at hS9); go_simp; (try with_reducible rfl))
        (try simp only [Act.put])
        (try simp only [List.setIfInBounds_toArray])
        (repeat (first | simp only [List.set_cons_succ] | simp only [List.set_cons_zero]))
        refine wpE_take (i := 11) (v := ?_) rfl (by kernel_rfl) (fun _ _ _ h => h) (Or.inl ⟨by kernel_rfl, ?_⟩) (by assumption) ?_
        rotate_left
        focus (intro w9 hS9; (try dsimp only at hS9); go_simp; (try with_reducible rfl))
        (try simp only [Act.put])
        (try simp only [List.setIfInBounds_toArray])
        (repeat (first | simp only [List.set_cons_succ] | simp only [List.set_cons_zero]))
        refine wpE_take (i := 12) (v := ?_) rfl (by kernel_rfl) (fun _ _ _ h => h) (Or.inl ⟨by kernel_rfl, ?_⟩) (by assumption) ?_
        rotate_left
        focus (intro w9 hS9; have z0 := HKC.out w9 hS9; clear hS9; go_simp; (try with_reducible rfl))
        (try simp only [Act.put])
        (try simp only [List.setIfInBounds_toArray])
        (repeat (first | simp only [List.set_cons_succ] | simp only [List.set_cons_zero]))
        refine wpE_ready (rs := [6]) (by kernel_rfl) (by kernel_rfl) ?_
        refine AllReadyE.cons rfl (fun K hK => ?_) AllReadyE.nil
        rw [if_pos (show _ = true by kernel_rfl)]
        go_simp
        go_wp2_with (
          go_at_call 16
          refine (HC1.out _ (by (repeat (first | (with_reducible exact Below.refl _ _) | (with_reducible exact HW.out) | (with_reducible apply bl_drewN) | (with_reducible apply bl_alloc) | (with_reducible apply Below.drew))); done)).mono ?_
          rintro e w5 ⟨rfl, rfl⟩)
        clear hHeld
        refine hK.out _ _ ((by (repeat (first | (with_reducible exact Below.refl _ _) | (with_reducible exact HW.out) | (with_reducible apply bl_drewN) | (with_reducible apply bl_alloc) | (with_reducible apply Below.drew))); done)) (fun hHeld => ?_)
        clear hK K
        refine wpE_ready (rs := [13]) (by kernel_rfl) (by kernel_rfl) ?_
        refine AllReadyE.cons rfl (fun K hK => ?_) AllReadyE.nil
        rw [if_pos (show _ = true by kernel_rfl)]
        go_simp
        go_wp2_with (
          go_at_call 16
          refine (HC2.out _ (by (repeat (first | (with_reducible exact Below.refl _ _) | (with_reducible exact HW.out) | (with_reducible apply bl_drewN) | (with_reducible apply bl_alloc) | (with_reducible apply Below.drew))); done)).mono ?_
          rintro e w5 ⟨rfl, rfl⟩)
        clear hHeld
        refine hK.out _ _ ((by (repeat (first | (with_reducible exact Below.refl _ _) | (with_reducible exact HW.out) | (with_reducible apply bl_drewN) | (with_reducible apply bl_alloc) | (with_reducible apply Below.drew))); done)) (fun hHeld => ?_)
        clear hK K
        clear hHeld
        refine wpE_out (by kernel_rfl) ?_
        refine wpAny_ready (rs := [14]) (by kernel_rfl) (by simp) ?_
        refine AllReady.cons rfl (fun K hK => ?_) AllReady.nil
        rw [if_pos (show _ = true by kernel_rfl)]
        go_simp
        refine hK _ _ ?_
        clear hK K
        refine wpAny_ready (rs := [15]) (by kernel_rfl) (by simp) ?_
        refine AllReady.cons rfl (fun K hK => ?_) AllReady.nil
        rw [if_pos (show _ = true by kernel_rfl)]
        go_simp
        refine hK _ _ ?_
        clear hK K
        refine wpAny_done (by kernel_rfl) ?_ _
        go_wp2_with (fail)
        go_meet
        exact ⟨rfl, rfl, (by (repeat (first | (with_reducible exact Below.refl _ _) | (with_reducible exact HW.out) | (with_reducible apply bl_drewN) | (with_reducible apply bl_alloc) | (with_reducible apply Below.drew))); done)⟩
      case rest =>
        obtain ⟨rfl, rfl, hwx⟩ := hcut
        have HWX := Lib.hid hwx
        have HB9 := Lib.hid (bl_trans HB'.out hwx)
        have HO9 := Lib.hid (HO.out.below hwx)
        have hs9 := HB9.out.size
        have d0 := HKC.out wc hwx
        clear hwx HW
        by_cases hcc : c1 = c2
        · have hne : (c1 != c2) = false := by simpa using hcc
          have HN := Lib.hid (show (U.take (k + 1)).filterMap (difOf a.ours b.thr) = l by rw [HT.out, HDO.out, if_pos hcc]; simp)
          clear hcc
          go_wp2_with (fail)
          go_roundg (U.length - (k + 1))
          case measure => omega
          case rel => exact ⟨k + 1, _, rfl, HKG.out, by go_num, by rw [HN.out]; exact HO9.out, HB9.out⟩
        · have hne : (c1 != c2) = true := by simpa using hcc
          have HN := Lib.hid (show (U.take (k + 1)).filterMap (difOf a.ours b.thr) = l ++ [⟨s, c1, c2⟩] by rw [HT.out, HDO.out, if_neg hcc]; rfl)
          clear hcc
          go_wp2_with (
            at_builtin
            refine wpList_append_one (.tmp 39) (.tmp 47) rfl 60 rfl slDif rfl HO9.out rfl (S := fun _ => False) (y := ⟨s, c1, c2⟩) (tDif_mk (r := ⟨s, c1, c2⟩) ⟨HSS.out, HWF.out.1, HWF.out.2⟩) (fun _ h => h.elim) (by omega) (by unfold maxLen; omega) hs9 ?_
            intro v3 w9 ho9 hg9 hb9)
          go_roundg (U.length - (k + 1))
          case measure => omega
          case rel => exact ⟨k + 1, _, rfl, HKG.out, by go_num, by rw [HN.out]; exact ho9, HB9.out.trans hb9⟩
    · obtain rfl : k = U.length := by omega
      have hkd : decide ((U.length : Int) < (U.length : Int)) = false := by simp
      have HR := Lib.hid (show OwnSl tDif 63 w.heap.size wr (.slice ao ((U.take U.length).filterMap (difOf a.ours b.thr)).length co) (differC a.ours b.thr) from by
        have := HO.out
        rw [List.take_length, HDE.out] at this ⊢
        exact own_low this hz2)
      clear hk hlt
      go_wp2_with (fail)
      go_ret
      exact ⟨⟨_, rfl, HR.out⟩, bl_trans HB2.out HB'.out⟩
end Go.Proofs.YtmjbbpappigngaaGreat
/-
  Layer 44 (recon): the walks of the reference's Agree, of the law's records and small.
-/
namespace Go.Proofs.YtmjbbpappigngaaGreat
open Go.RowKit Go.Tw Go.Tw.Exc
set_option maxRecDepth 100000 in
set_option maxHeartbeats 2000000 in
theorem agreeR_any (a b : Par) (a1 a2 a3 b1 b2 b3 : Value) (w : World) (ha : ParOk (· < w.heap.size) w a a1 a2 a3) (hb : ParOk (· < w.heap.size) w b b1 b2 b3) (s1 : Small44 a.ours) (s2 : Small44 b.thr) (s3 : Small44 b.ours) (s4 : Small44 a.thr) :
    Calls Tryz.prog 35 #[.agg #[.string a.nm, .int .i64 a.out, .int .i64 a.inn, a1, a2, a3], .agg #[.string b.nm, .int .i64 b.out, .int .i64 b.inn, b1, b2, b3]] w
      fun e w' => e = .returned (.bool (agreeC a b)) ∧ Below w.heap.size w w' := by
  have HA := Lib.hid ha
  have HB := Lib.hid hb
  obtain ⟨x1, y1, _, _, rfl, -⟩ := id ha.wt
  obtain ⟨x2, y2, _, _, rfl, -⟩ := id ha.ours
  obtain ⟨x3, y3, _, _, rfl, -⟩ := id ha.thr
  obtain ⟨z1, e1, _, _, rfl, -⟩ := id hb.wt
  obtain ⟨z2, e2, _, _, rfl, -⟩ := id hb.ours
  obtain ⟨z3, e3, _, _, rfl, -⟩ := id hb.thr
  have HS := Lib.hid (And.intro (And.intro s1 s2) (And.intro s3 s4))
  have HB2 := Lib.hid (show Below w.heap.size w ((w.alloc (.cells #[.string a.nm, .int .i64 a.out, .int .i64 a.inn, .slice x1 a.wt.length y1, .slice x2 a.ours.length y2, .slice x3 a.thr.length y3] 29)).alloc (.cells #[.string b.nm, .int .i64 b.out, .int .i64 b.inn, .slice z1 b.wt.length e1, .slice z2 b.ours.length e2, .slice z3 b.thr.length e3] 29)) from bl_alloc (bl_alloc (Below.refl _ _) _) _)
  clear ha hb s1 s2 s3 s4
  go_enter Tryz.func35, Tryz.ntmps35
  go_wp2_with (fail)
  refine (differR_any a b _ _ _ _ _ _ _ (HA.out.step HB2.out) (HB.out.step HB2.out) HS.out.1.1 HS.out.1.2).mono ?_
  rintro e w2 ⟨⟨v, rfl, ho⟩, hb2⟩
  obtain ⟨av, cv, rfl, -, -⟩ := ho.form
  have m0 := Go.Tw.Below.at_old hb2 (alloc2_0 w _ _)
  have m1 := Go.Tw.Below.at_old hb2 (alloc2_1 w _ _)
  have HB3 := Lib.hid (bl_trans HB2.out hb2)
  obtain ⟨c0, c1, c2, c3, c4, c5, cf⟩ := blk6' m0
  obtain ⟨d0, d1, d2, d3, d4, d5, df⟩ := blk6' m1
  obtain ⟨n, hn⟩ : ∃ n, (differC a.ours b.thr).length = n := ⟨_, rfl⟩
  rw [hn]
  have HN := Lib.hid hn
  clear hb2 ho m0 m1 hn HB2
  by_cases hz : n = 0
  · have hz1 : ((n : Int) == 0) = true := by simp; omega
    have HZ := Lib.hid hz
    clear hz
    go_wp2_with (fail)
    refine (differR_any b a _ _ _ _ _ _ _ (HB.out.step HB3.out) (HA.out.step HB3.out) HS.out.2.1 HS.out.2.2).mono ?_
    rintro e w3 ⟨⟨v, rfl, ho⟩, hb3⟩
    obtain ⟨av2, cv2, rfl, -, -⟩ := ho.form
    have HB4 := Lib.hid (bl_trans HB3.out hb3)
    obtain ⟨n2, hn2⟩ : ∃ n, (differC b.ours a.thr).length = n := ⟨_, rfl⟩
    rw [hn2]
    have HR := Lib.hid (show agreeC a b = ((n2 : Int) == 0) by
      unfold agreeC
      rw [HN.out, hn2, HZ.out]
      by_cases q : n2 = 0
      · subst q; rfl
      · have q2 : ¬ (n2 : Int) = 0 := by omega
        simp [q, q2])
    clear hb3 ho hn2
    go_wp2_with (fail)
    go_ret
    exact ⟨ret_bool HR.out, HB4.out⟩
  · have hz1 : ((n : Int) == 0) = false := by simp; omega
    have HR := Lib.hid (show agreeC a b = false by
      unfold agreeC
      rw [HN.out, decide_eq_false hz]; rfl)
    clear hz
    go_wp2_with (fail)
    go_ret
    exact ⟨ret_bool HR.out, HB3.out⟩
/-- a boolean; where it is true, P holds -/
def SmE (P : Prop) (e : Ending) : Prop := ∃ b, e = .returned (.bool b) ∧ (b = true → P)
set_option maxRecDepth 100000 in
set_option maxHeartbeats 4000000 in
theorem records_any (l : List Rec) (v : Value) (w : World) (h : SlIs tRec (· < w.heap.size) w v l) :
    Calls Tryz.prog 14 #[v] w fun e w' => SmE (Small44 l) e ∧ Below w.heap.size w w' := by
  obtain ⟨ao, cp, bb, off, rfl, hl1, hl2, ho⟩ := rec_open h
  unfold maxLen at hl2
  have HL := Lib.hid ho
  clear h ho
  go_enter Tryz.func14, Tryz.ntmps14
  go_wp2_with (fail)
  go_loopg [3] l.length (fun g i wr => ∃ k : Nat, k + g = l.length ∧ i = .int .i64 k ∧ Hid (∀ j (_ : j < k) (h : j < l.length), -1125899906842624 ≤ l[j].c ∧ l[j].c ≤ 1125899906842624) ∧ Below w.heap.size w wr)
  case atStart => exact ⟨0, by omega, rfl, Lib.hid (fun j h => absurd h (Nat.not_lt_zero _)), Below.refl _ _⟩
  case round =>
    obtain ⟨k, hk, rfl, HI, hb⟩ := hrel
    have HB := Lib.hid hb
    clear hb
    by_cases hlt : k < l.length
    · obtain ⟨rfl, -, -, hok, d0, d1, d2, d3, d4⟩ := HL.out wr (.of_below HB.out) k hlt
      have HX := Lib.hid (show (-1125899906842624 ≤ l[k].c ∧ l[k].c ≤ 1125899906842624) → ∀ j (_ : j < k + 1) (h : j < l.length), -1125899906842624 ≤ l[j].c ∧ l[j].c ≤ 1125899906842624 from fun hx j h1 h2 => by
        by_cases e : j = k
        · subst e; exact hx
        · exact HI.out j (by omega) h2)
      obtain ⟨x, hx⟩ : ∃ x, l[k] = x := ⟨_, rfl⟩
      rw [hx] at d0 d1 d2 d3 d4 HX
      have k0 : (0 : Int) ≤ (k : Int) := by omega
      have k1 : (k : Int) < (l.length : Int) := by omega
      clear hx hok
      by_cases h1 : 1099511627776 < x.c
      · go_wp2_with (fail)
        go_ret
        exact ⟨⟨false, rfl, fun h => by cases h⟩, HB.out⟩
      by_cases h2 : x.c < -1099511627776
      · go_wp2_with (fail)
        go_ret
        exact ⟨⟨false, rfl, fun h => by cases h⟩, HB.out⟩
      have HN := Lib.hid (HX.out ⟨by omega, by omega⟩)
      by_cases h3 : 20 < x.key.size
      · have h3' : (20 : Int) < (x.key.size : Int) := by omega
        go_wp2_with (fail)
        go_ret
        exact ⟨⟨false, rfl, fun h => by cases h⟩, HB.out⟩
      have h3' : ¬ (20 : Int) < (x.key.size : Int) := by omega
      go_wp2_with (fail)
      go_roundg (l.length - (k + 1))
      case measure => omega
      case rel => exact ⟨k + 1, by omega, by go_num, HN, HB.out⟩
    · obtain rfl : k = l.length := by omega
      have hkd : decide ((l.length : Int) < (l.length : Int)) = false := by simp
      have HC := Lib.hid (show ∀ r ∈ l, -1125899906842624 ≤ r.c ∧ r.c ≤ 1125899906842624 from fun r hr => by
        obtain ⟨j, hj, rfl⟩ := List.getElem_of_mem hr
        exact HI.out j hj hj)
      clear hlt hk
      by_cases h4 : l.length ≤ 40
      · have h4' : (l.length : Int) ≤ 40 := by omega
        go_wp2_with (fail)
        go_ret
        exact ⟨⟨true, by first | rfl | (exact ret_bool (by simp; omega)), fun _ => ⟨by omega, HC.out⟩⟩, HB.out⟩
      · have h4' : ¬ (l.length : Int) ≤ 40 := by omega
        go_wp2_with (fail)
        go_ret
        exact ⟨⟨false, by first | rfl | (exact ret_bool (by simp; omega)), fun h => by cases h⟩, HB.out⟩
set_option maxRecDepth 100000 in
set_option maxHeartbeats 4000000 in
theorem small44_any (p : Par) (vw vo vt : Value) (w : World) (h : ParOk (· < w.heap.size) w p vw vo vt) :
    Calls Tryz.prog 18 #[.agg #[.string p.nm, .int .i64 p.out, .int .i64 p.inn, vw, vo, vt]] w fun e w' => SmE (Small44 p.ours ∧ Small44 p.thr) e ∧ Below w.heap.size w w' := by
  have HP := Lib.hid h
  obtain ⟨x1, y1, _, _, rfl, -⟩ := id h.wt
  obtain ⟨x2, y2, _, _, rfl, -⟩ := id h.ours
  obtain ⟨x3, y3, _, _, rfl, -⟩ := id h.thr
  clear h
  go_enter Tryz.func18, Tryz.ntmps18
  go_wp2_with (fail)
  refine (records_any p.ours _ _ (HP.out.ours.step (bl_alloc (Below.refl _ _) _))).mono ?_
  rintro e w2 ⟨⟨b1, rfl, hq1⟩, hb2⟩
  have m0 := Go.Tw.Below.at_old hb2 (alloc1_0 w _)
  have HB2 := Lib.hid (bl_trans (bl_alloc (Below.refl w.heap.size w) _) hb2)
  have HX := Lib.hid m0
  clear hb2 m0
  obtain ⟨c0, c1, c2, c3, c4, c5, cf⟩ := blk6' HX.out
  cases b1
  case false =>
    go_wp2_with (fail)
    go_ret
    exact ⟨⟨false, rfl, fun h => by cases h⟩, HB2.out⟩
  have HQ1 := Lib.hid (hq1 rfl)
  clear hq1
  go_wp2_with (fail)
  refine (records_any p.thr _ _ (HP.out.thr.step HB2.out)).mono ?_
  rintro e w3 ⟨⟨b2, rfl, hq2⟩, hb3⟩
  have HB3 := Lib.hid (bl_trans HB2.out hb3)
  have HX3 := Lib.hid (Go.Tw.Below.at_old hb3 HX.out)
  clear hb3 HX c0 c1 c2 c3 c4 c5 cf
  obtain ⟨c0, c1, c2, c3, c4, c5, cf⟩ := blk6' HX3.out
  cases b2
  case false =>
    go_wp2_with (fail)
    go_ret
    exact ⟨⟨false, rfl, fun h => by cases h⟩, HB3.out⟩
  have HQ2 := Lib.hid (hq2 rfl)
  clear hq2
  go_wp2_with (fail)
  go_ret
  exact ⟨⟨_, rfl, fun _ => ⟨HQ1.out, HQ2.out⟩⟩, HB3.out⟩
end Go.Proofs.YtmjbbpappigngaaGreat
