/-
  Layer 44 (recon): the walk of the reference's amounts.
-/
import Derived.Test.YthdbojbblkfhaaaRecoC
import Derived.Sort.Walk0
namespace Go.Tw.Exc
open Go.RowKit Go.Tw
/-- where a key belongs -/
def posK : List ByteArray → ByteArray → Nat
  | [], _ => 0
  | y :: L, x => if kb y < kb x then posK L x + 1 else 0
def insK (L : List ByteArray) (x : ByteArray) : List ByteArray := if L[posK L x]? = some x then L else L.take (posK L x) ++ x :: L.drop (posK L x)
def insAll (l : List Rec) : List ByteArray := l.foldl (fun L r => insK L r.key) []
theorem insAll_snoc (l : List Rec) (x : Rec) : insAll (l ++ [x]) = insK (insAll l) x.key := by unfold insAll; rw [List.foldl_append]; rfl
theorem posK_le : ∀ (L : List ByteArray) (x : ByteArray), posK L x ≤ L.length
  | [], _ => Nat.le_refl _
  | y :: L, x => by
    unfold posK
    split
    · have := posK_le L x; simp; omega
    · exact Nat.zero_le _
theorem posK_lt : ∀ {L : List ByteArray} {x : ByteArray} {t : Nat}, t < posK L x → ∀ ht : t < L.length, kb L[t] < kb x
  | [], _, _, _, ht => absurd ht (Nat.not_lt_zero _)
  | y :: L, x, 0, h, _ => by
    unfold posK at h
    split at h
    · rename_i q; exact q
    · exact absurd h (Nat.not_lt_zero _)
  | y :: L, x, t + 1, h, ht => by
    unfold posK at h
    split at h
    · simpa using posK_lt (L := L) (x := x) (t := t) (by omega) (by simpa using ht)
    · omega
theorem posK_at : ∀ {L : List ByteArray} {x : ByteArray} (h : posK L x < L.length), ¬ kb L[posK L x] < kb x
  | [], _, h => absurd h (Nat.not_lt_zero _)
  | y :: L, x, h => by
    by_cases q : kb y < kb x
    · have e : posK (y :: L) x = posK L x + 1 := by rw [posK, if_pos q]
      have h' : posK L x < L.length := by rw [e] at h; simpa using h
      have := posK_at h'
      simp only [e, List.getElem_cons_succ]
      exact this
    · have e : posK (y :: L) x = 0 := by rw [posK, if_neg q]
      simp only [e, List.getElem_cons_zero]
      exact q
end Go.Tw.Exc
namespace Go.Proofs.Ythdbojbblkfhaaa
open Go.RowKit Go.Tw Go.Tw.Exc
theorem slStrS : SlT Try.prog 94 9 1 16 := SlT.of (z := .string ByteArray.empty) Try.underlying94 (by kernel_rfl) rfl (by decide)
theorem less_kb (a b : ByteArray) : Op.bytesLess a.toList b.toList = decide (kb a < kb b) := by
  rw [bytesLess_eq, ByteArray.toList_eq, ByteArray.toList_eq]
  rfl
theorem sl_emptyF {α : Type} {T : Ty α} {S S' : Nat → Prop} {w w' : World} {v : Value} (h : SlIs T S w v []) : SlIs T S' w' v [] := by
  obtain ⟨ao, cap, b, off, hv, h1, h2, h3, h4⟩ := h
  exact ⟨ao, cap, b, off, hv, h1, h2, h3, fun k hk => absurd hk (Nat.not_lt_zero _)⟩
theorem add_offF (b o j : Nat) : (⟨b, o, none⟩ : Addr).add j = ⟨b, o + j, none⟩ := by
  unfold Addr.add
  split
  · rename_i h
    have h0 : j = 0 := by simpa using h
    subst h0
    rfl
  · rfl
set_option maxRecDepth 100000 in
set_option maxHeartbeats 8000000 in
theorem amountsR_any (la lb : List Rec) (va vb : Value) (w : World) (ha : SlIs tRec (· < w.heap.size) w va la) (hb : SlIs tRec (· < w.heap.size) w vb lb) (h1 : la.length ≤ 1000) (h2 : lb.length ≤ 1000) :
    Calls Try.prog 64 #[va, vb] w fun e w' => (∃ v', e = .returned v' ∧ SlIs tStr (· < w'.heap.size) w' v' (insAll (la ++ lb))) ∧ Below w.heap.size w w' := by
  have HA := Lib.hid ha
  have HB := Lib.hid hb
  obtain ⟨x1, y1, _, _, rfl, -⟩ := id ha
  obtain ⟨z1, e1, _, _, rfl, -⟩ := id hb
  clear ha hb
  have HK0 := Lib.hid (show SlIs tStr (fun _ => True) (w.alloc (.cells #[] 9)) (.slice (some ⟨w.heap.size, 0, none⟩) 0 0) [] from SlIs.of_block (css := []) (l := []) (heap_alloc_new _ _) ⟨[], by rfl⟩ trivial trivial (Nat.le_refl _) (by decide))
  go_enter Try.func64, Try.ntmps64
  go_upto_region 2 with (fail)
  obtain ⟨w1, hw1⟩ : ∃ w1, w.alloc (.cells #[] 9) = w1 := ⟨_, rfl⟩
  rw [hw1] at HK0 ⊢
  have HB1 := Lib.hid (show Below w.heap.size w w1 from by rw [← hw1]; exact bl_alloc (Below.refl _ _) _)
  obtain ⟨k0, hk0⟩ : ∃ k, w.heap.size = k := ⟨_, rfl⟩
  clear hw1
  have o0 : OwnSl tRec 51 w1.heap.size (w1.alloc (.cells #[] 51)) (.slice (some ⟨w1.heap.size, 0, none⟩) 0 0) [] := OwnSl.lit (css := []) rfl trivial (Nat.le_refl _) (by decide)
  have HO0 := Lib.hid o0
  have HAa := Lib.hid (HA.out.step HB1.out)
  have HBa := Lib.hid (HB.out.step HB1.out)
  clear o0 hk0
  have hb1 : (([] : List Rec).length + la.length) * 48 ≤ 140737488355328 := by simp; omega
  have hb2 : ([] : List Rec).length + la.length ≤ maxLen := by unfold maxLen; simp; omega
  have hb3 : (([] ++ la : List Rec).length + lb.length) * 48 ≤ 140737488355328 := by simp; omega
  have hb4 : ([] ++ la : List Rec).length + lb.length ≤ maxLen := by unfold maxLen; simp; omega
  go_wp2_with (first
    | (at_builtin
       refine wpList_append_old (.tmp 11) (.tmp 12) rfl 23 rfl slRec rfl HO0.out rfl (HAa.out.keep (fun _ h => h) (.of_below (bl_alloc (Below.refl _ _) _))) hb1 hb2 (by simp) ?_
       intro v2 w2 ho2 hg2 hb2'
       have HO2 := Lib.hid ho2
       have HB2 := Lib.hid (show Below w1.heap.size w1 w2 from (bl_alloc (Below.refl _ _) _).trans hb2')
       have hz2 := HB2.out.size
       clear ho2 hg2 hb2')
    | (at_builtin
       refine wpList_append_old (.tmp 13) (.tmp 14) rfl 23 rfl slRec rfl HO2.out rfl (HBa.out.keep (fun _ h => h) (.of_below HB2.out)) hb3 hb4 hz2 ?_
       intro v3 w3 ho3 hg3 hb3'
       have HO3 := Lib.hid (show OwnSl tRec 51 w1.heap.size w3 v3 (la ++ lb) from ho3)
       have HB3 := Lib.hid (show Below w1.heap.size w1 w3 from HB2.out.trans hb3')
       obtain ⟨a3, c3, q3, -, -⟩ := HO3.out.form
       subst q3
       clear ho3 hg3 hb3'))
  have HSL := Lib.hid HO3.out.sl
  obtain ⟨aA, cA, bA, oA, eA, kA, mA, HAO⟩ := rec_open HSL.out
  simp only [Value.slice.injEq, true_and] at eA
  obtain ⟨rfl, rfl⟩ := eA
  have HAC := Lib.hid HAO
  unfold maxLen at mA
  have hK3 : SlIs tStr (· < w3.heap.size) w3 (.slice (some ⟨w.heap.size, 0, none⟩) 0 0) [] := sl_emptyF HK0.out
  have HK3 := Lib.hid hK3
  have HBW := Lib.hid (bl_trans HB1.out HB3.out)
  obtain ⟨all, hall⟩ : ∃ l, la ++ lb = l := ⟨_, rfl⟩
  have hll : all.length ≤ 2000 := by rw [← hall, List.length_append]; omega
  have hlen : la.length + lb.length = all.length := by rw [← hall, List.length_append]
  have HALL := Lib.hid hall
  rw [hall] at HAC kA
  rw [hlen]
  clear hall hlen hK3 HAO HSL HO3 HB3 HB2 HO2 hz2 HO0 HAa HBa hb1 hb2 hb3 hb4 HK0 HB1 HA HB
  go_loopg [7, 5] all.length (fun g i v wr => ∃ (k : Nat) (v0 : Value), v0 = v ∧ k + g = all.length ∧ i = .int .i64 k ∧ SlIs tStr (· < wr.heap.size) wr v0 (insAll (all.take k)) ∧ (insAll (all.take k)).length ≤ k ∧ Below w3.heap.size w3 wr)
  case atStart => exact ⟨0, _, rfl, by omega, rfl, HK3.out, Nat.le_refl _, Below.refl _ _⟩
  case round =>
    clear HK3
    obtain ⟨wo, rfl⟩ : ∃ wo : World, wo = wr := ⟨_, rfl⟩
    obtain ⟨k, v0, rfl, hk, rfl, hks, hkl, hb⟩ := hrel
    have HB := Lib.hid hb
    have HKS := Lib.hid hks
    obtain ⟨aK, cK, bK, oK, rfl, hk1, hk2, hkc⟩ := Go.Tw.strs_open hks
    have HKC := Lib.hid (fun w' (hb : Below wo.heap.size wo w') k h => hkc w' (.of_below hb) k h)
    unfold maxLen at hk2
    clear hks hb hkc
    by_cases hlt : k < all.length
    · obtain ⟨rfl, -, -, hok, d0, d1, d2, d3, d4⟩ := HAC.out _ (.of_below HB.out) k hlt
      have HT := Lib.hid (show insAll (all.take (k + 1)) = insK (insAll (all.take k)) all[k].key by rw [List.take_succ_eq_append_getElem hlt, insAll_snoc])
      obtain ⟨x, hx⟩ : ∃ x, all[k].key = x := ⟨_, rfl⟩
      rw [hx] at HT
      have hx' := hx
      clear d1
      obtain ⟨L, hL⟩ : ∃ L, insAll (all.take k) = L := ⟨_, rfl⟩
      rw [hL] at HT HKS HKC hkl hk1 ⊢
      have HXS := Lib.hid (show x.size ≤ maxLen by rw [← hx]; exact hok.key)
      have k0 : (0 : Int) ≤ (k : Int) := by omega
      have k1 : (k : Int) < (all.length : Int) := by omega
      have HPL := Lib.hid (fun t h1 h2 => posK_lt (L := L) (x := x) (t := t) h1 h2)
      have HPA := Lib.hid (fun h => posK_at (L := L) (x := x) h)
      have hple := posK_le L x
      have HIK := Lib.hid (show insK L x = if L[posK L x]? = some x then L else L.take (posK L x) ++ x :: L.drop (posK L x) from rfl)
      obtain ⟨p, hp⟩ : ∃ p, posK L x = p := ⟨_, rfl⟩
      rw [hp] at HPL hple HIK
      have HPA2 := Lib.hid (show ∀ h : p < L.length, ¬ kb L[p] < kb x from fun h => by subst hp; exact HPA.out h)
      clear hx hL hp HPA hok d0 d2 d3 d4
      go_wp2_with (fail)
      go_loopg [8] p (fun g j wi => ∃ t : Nat, t + g = p ∧ j = .int .i64 t ∧ Below wo.heap.size wo wi)
      case atStart => exact ⟨0, by omega, rfl, Below.refl _ _⟩
      case round =>
        obtain ⟨wi, rfl⟩ : ∃ wi : World, wi = wr := ⟨_, rfl⟩
        obtain ⟨t, ht, rfl, hwi⟩ := hrel
        have HWI := Lib.hid hwi
        obtain ⟨-, -, -, -, -, d1, -, -, -⟩ := HAC.out wi (.of_below (bl_trans HB.out hwi)) k hlt
        rw [hx'] at d1
        clear hwi
        by_cases htp : t < p
        · obtain ⟨rfl, -, -, e0, -⟩ := HKC.out wi HWI.out t (by omega)
          have HL1 := Lib.hid (HPL.out t htp (by omega))
          obtain ⟨y, hy⟩ : ∃ y, L[t] = y := ⟨_, rfl⟩
          rw [hy] at e0 HL1
          have hless : Op.bytesLess y.toList x.toList = true := by rw [less_kb]; exact decide_eq_true HL1.out
          have t0 : (0 : Int) ≤ (t : Int) := by omega
          have t1 : (t : Int) < (L.length : Int) := by omega
          clear hy
          go_wp2_with (go_quiet (fail))
          go_roundg (p - (t + 1))
          case measure => omega
          case rel => exact ⟨t + 1, by omega, by go_num, bl_drewN HWI.out _⟩
        · obtain rfl : t = p := by omega
          clear htp ht
          by_cases hpl : t < L.length
          · obtain ⟨rfl, -, -, e0, -⟩ := HKC.out wi HWI.out t hpl
            have HN0 := Lib.hid (HPA2.out hpl)
            obtain ⟨y, hy⟩ : ∃ y, L[t] = y := ⟨_, rfl⟩
            rw [hy] at e0 HN0
            have HYE := Lib.hid (show L[t]? = some y by rw [List.getElem?_eq_getElem hpl, hy])
            have hless : Op.bytesLess y.toList x.toList = false := by rw [less_kb]; exact decide_eq_false HN0.out
            have t0 : (0 : Int) ≤ (t : Int) := by omega
            have t1 : (t : Int) < (L.length : Int) := by omega
            clear hy
            by_cases hyx : y = x
            · have heq : (y.toList == x.toList) = true := by rw [str_eq]; exact decide_eq_true hyx
              have HIN := Lib.hid (show insAll (all.take (k + 1)) = L by rw [HT.out, HIK.out, HYE.out, if_pos (by rw [hyx])])
              clear hyx
              go_wp2_with (go_quiet (fail))
              go_roundg (all.length - (k + 1))
              case measure => omega
              case rel => exact ⟨k + 1, _, rfl, by omega, by go_num, by rw [HIN.out]; exact HKS.out.step (bl_drewN HWI.out _), by rw [HIN.out]; omega, bl_trans HB.out (bl_drewN HWI.out _)⟩
            · have heq : (y.toList == x.toList) = false := by rw [str_eq]; exact decide_eq_false hyx
              go_upto_region 10 with (go_quiet (fail))
              have HIN := Lib.hid (show insAll (all.take (k + 1)) = L.take t ++ x :: L.drop t by rw [HT.out, HIK.out, HYE.out, if_neg (by intro q; injection q with q; exact hyx q)])
              have hct : ¬ cK = t := by omega
              have HDRF := Lib.hid (show ∀ w', SlIs tStr (· < w'.heap.size) w' (.slice (some ⟨bK, oK, none⟩) L.length cK) L → SlIs tStr (· < w'.heap.size) w' (.slice (some ⟨bK, oK + t, none⟩) (L.length - t) (cK - t)) (L.drop t) from fun w' h => by
                have q := SlIs.drop (t := t) (k := t) h (by omega) (by show t = t * 1; omega)
                rw [if_neg hct, Option.map_some, add_offF] at q
                exact q)
              refine (fun (H : ∀ wy : World, Below wi.heap.size wi wy → Code.wp _ _ _ _ wy) => H _ (by (repeat (first | (with_reducible exact Below.refl _ _) | (with_reducible apply bl_drewN) | (with_reducible apply Below.drew))))) (fun wy hwy => ?_)
              have HWY := Lib.hid (bl_trans HWI.out hwy)
              have HXC := Lib.hid (show ∀ w', Below wy.heap.size wy w' → w'.cell? ⟨bA, oA + k * 5 + 1, none⟩ = some (.string x) from fun w' hw => by
                obtain ⟨-, -, -, -, -, q1, -, -, -⟩ := HAC.out w' (.of_below (bl_trans (bl_trans HB.out HWY.out) hw)) k hlt
                rw [hx'] at q1
                exact q1)
              have HKY := Lib.hid (HKS.out.step HWY.out)
              have o0 : OwnSl tStr 9 wy.heap.size (wy.alloc (.cells #[] 9)) (.slice (some ⟨wy.heap.size, 0, none⟩) 0 0) [] := OwnSl.lit (css := []) rfl trivial (Nat.le_refl _) (by decide)
              have HO0 := Lib.hid o0
              have htk : (L.take t).length = t := by rw [List.length_take]; omega
              have hb1 : (([] : List ByteArray).length + (L.take t).length) * 16 ≤ 140737488355328 := by rw [htk]; simp; omega
              have hb2 : ([] : List ByteArray).length + (L.take t).length ≤ maxLen := by rw [htk]; unfold maxLen; simp; omega
              have hb3 : (([] ++ L.take t : List ByteArray).length + 1) * 16 ≤ 140737488355328 := by rw [List.nil_append, htk]; omega
              have hb4 : ([] ++ L.take t : List ByteArray).length + 1 ≤ maxLen := by rw [List.nil_append, htk]; unfold maxLen; omega
              have hb5 : ((([] ++ L.take t) ++ [x] : List ByteArray).length + (L.drop t).length) * 16 ≤ 140737488355328 := by simp; omega
              have hb6 : (([] ++ L.take t) ++ [x] : List ByteArray).length + (L.drop t).length ≤ maxLen := by unfold maxLen; simp; omega
              have HTK := Lib.hid (show SlIs tStr (· < wy.heap.size) wy (.slice (some ⟨bK, oK, none⟩) t cK) (L.take t) from HKY.out.take (by omega))
              have HDR := Lib.hid (show SlIs tStr (· < wy.heap.size) wy (.slice (some ⟨bK, oK + t, none⟩) (L.length - t) (cK - t)) (L.drop t) from HDRF.out wy HKY.out)
              clear o0 hwy
              go_wp2_with (first
                | (at_builtin
                   refine wpList_append_old (.tmp 57) (.tmp 60) rfl 94 rfl slStrS rfl HO0.out rfl (HTK.out.keep (fun _ h => h) (.of_below (bl_alloc (Below.refl _ _) _))) hb1 hb2 (by simp) ?_
                   intro v5 w5 ho5 hg5 hb5'
                   have HO5 := Lib.hid ho5
                   have HB5 := Lib.hid (show Below wy.heap.size wy w5 from (bl_alloc (Below.refl _ _) _).trans hb5')
                   have hz5 := HB5.out.size
                   have x5 := HXC.out w5 HB5.out
                   clear ho5 hg5 hb5')
                | (at_builtin
                   refine wpList_append_one (.tmp 62) (.tmp 68) rfl 94 rfl slStrS rfl HO5.out rfl (S := fun _ => False) (y := x) ⟨rfl, HXS.out⟩ (fun _ h => h.elim) hb3 hb4 hz5 ?_
                   intro v6 w6 ho6 hg6 hb6'
                   have HO6 := Lib.hid ho6
                   have HB6 := Lib.hid (HB5.out.trans hb6')
                   have hz6 := HB6.out.size
                   clear ho6 hg6 hb6')
                | (at_builtin
                   refine wpList_append_old (.tmp 70) (.tmp 73) rfl 94 rfl slStrS rfl HO6.out rfl (HDR.out.keep (fun _ h => h) (.of_below HB6.out)) hb5 hb6 hz6 ?_
                   intro v7 w7 ho7 hg7 hb7'
                   have HO7 := Lib.hid (show OwnSl tStr 9 wy.heap.size w7 v7 (insAll (all.take (k + 1))) from by
                     rw [HIN.out]
                     have := ho7
                     simpa using this)
                   have HB7 := Lib.hid (HB6.out.trans hb7')
                   clear ho7 hg7 hb7'))
              all_goals
                go_roundg (all.length - (k + 1))
                case measure => omega
                case rel => exact ⟨k + 1, _, rfl, by omega, by go_num, HO7.out.sl, by rw [HIN.out]; simp; omega, bl_trans HB.out (bl_trans HWY.out HB7.out)⟩
          · have htL : t = L.length := by omega
            have hkd : decide (t < L.length) = false := decide_eq_false hpl
            have htl : t ≤ L.length := by omega
            have t0 : (0 : Int) ≤ (t : Int) := by omega
            have t1 : (t : Int) ≤ (L.length : Int) := by omega
            have HIN := Lib.hid (show insAll (all.take (k + 1)) = L.take t ++ x :: L.drop t by rw [HT.out, HIK.out, if_neg (by rw [List.getElem?_eq_none (by omega)]; intro q; cases q)])
            have HDRF := Lib.hid (show ∀ w', SlIs tStr (· < w'.heap.size) w' (.slice aK L.length cK) L → SlIs tStr (· < w'.heap.size) w' (.slice (if cK = t then aK else Option.map (fun x => x.add t) aK) (L.length - t) (cK - t)) (L.drop t) from fun w' h =>
              SlIs.drop (t := t) (k := t) h (by omega) (by show t = t * 1; omega))
            clear htL
            go_upto_region 10 with (go_quiet (fail))
            refine (fun (H : ∀ wy : World, Below wi.heap.size wi wy → Code.wp _ _ _ _ wy) => H _ (by (repeat (first | (with_reducible exact Below.refl _ _) | (with_reducible apply bl_drewN) | (with_reducible apply Below.drew))))) (fun wy hwy => ?_)
            have HWY := Lib.hid (bl_trans HWI.out hwy)
            have HXC := Lib.hid (show ∀ w', Below wy.heap.size wy w' → w'.cell? ⟨bA, oA + k * 5 + 1, none⟩ = some (.string x) from fun w' hw => by
              obtain ⟨-, -, -, -, -, q1, -, -, -⟩ := HAC.out w' (.of_below (bl_trans (bl_trans HB.out HWY.out) hw)) k hlt
              rw [hx'] at q1
              exact q1)
            have HKY := Lib.hid (HKS.out.step HWY.out)
            have o0 : OwnSl tStr 9 wy.heap.size (wy.alloc (.cells #[] 9)) (.slice (some ⟨wy.heap.size, 0, none⟩) 0 0) [] := OwnSl.lit (css := []) rfl trivial (Nat.le_refl _) (by decide)
            have HO0 := Lib.hid o0
            have htk : (L.take t).length = t := by rw [List.length_take]; omega
            have hb1 : (([] : List ByteArray).length + (L.take t).length) * 16 ≤ 140737488355328 := by rw [htk]; simp; omega
            have hb2 : ([] : List ByteArray).length + (L.take t).length ≤ maxLen := by rw [htk]; unfold maxLen; simp; omega
            have hb3 : (([] ++ L.take t : List ByteArray).length + 1) * 16 ≤ 140737488355328 := by rw [List.nil_append, htk]; omega
            have hb4 : ([] ++ L.take t : List ByteArray).length + 1 ≤ maxLen := by rw [List.nil_append, htk]; unfold maxLen; omega
            have hb5 : ((([] ++ L.take t) ++ [x] : List ByteArray).length + (L.drop t).length) * 16 ≤ 140737488355328 := by simp; omega
            have hb6 : (([] ++ L.take t) ++ [x] : List ByteArray).length + (L.drop t).length ≤ maxLen := by unfold maxLen; simp; omega
            have HTK := Lib.hid (show SlIs tStr (· < wy.heap.size) wy (.slice aK t cK) (L.take t) from HKY.out.take (by omega))
            have HDR := Lib.hid (show SlIs tStr (· < wy.heap.size) wy (.slice (if cK = t then aK else Option.map (fun x => x.add t) aK) (L.length - t) (cK - t)) (L.drop t) from HDRF.out wy HKY.out)
            clear o0 hwy
            go_wp2_with (first
              | (at_builtin
                 refine wpList_append_old (.tmp 57) (.tmp 60) rfl 94 rfl slStrS rfl HO0.out rfl (HTK.out.keep (fun _ h => h) (.of_below (bl_alloc (Below.refl _ _) _))) hb1 hb2 (by simp) ?_
                 intro v5 w5 ho5 hg5 hb5'
                 have HO5 := Lib.hid ho5
                 have HB5 := Lib.hid (show Below wy.heap.size wy w5 from (bl_alloc (Below.refl _ _) _).trans hb5')
                 have hz5 := HB5.out.size
                 have x5 := HXC.out w5 HB5.out
                 clear ho5 hg5 hb5')
              | (at_builtin
                 refine wpList_append_one (.tmp 62) (.tmp 68) rfl 94 rfl slStrS rfl HO5.out rfl (S := fun _ => False) (y := x) ⟨rfl, HXS.out⟩ (fun _ h => h.elim) hb3 hb4 hz5 ?_
                 intro v6 w6 ho6 hg6 hb6'
                 have HO6 := Lib.hid ho6
                 have HB6 := Lib.hid (HB5.out.trans hb6')
                 have hz6 := HB6.out.size
                 clear ho6 hg6 hb6')
              | (at_builtin
                 refine wpList_append_old (.tmp 70) (.tmp 73) rfl 94 rfl slStrS rfl HO6.out rfl (HDR.out.keep (fun _ h => h) (.of_below HB6.out)) hb5 hb6 hz6 ?_
                 intro v7 w7 ho7 hg7 hb7'
                 have HO7 := Lib.hid (show OwnSl tStr 9 wy.heap.size w7 v7 (insAll (all.take (k + 1))) from by
                   rw [HIN.out]
                   have := ho7
                   simpa using this)
                 have HB7 := Lib.hid (HB6.out.trans hb7')
                 clear ho7 hg7 hb7'))
            all_goals
              go_roundg (all.length - (k + 1))
              case measure => omega
              case rel => exact ⟨k + 1, _, rfl, by omega, by go_num, HO7.out.sl, by rw [HIN.out]; simp; omega, bl_trans HB.out (bl_trans HWY.out HB7.out)⟩
    · obtain rfl : k = all.length := by omega
      have hkd : decide ((all.length : Int) < (all.length : Int)) = false := by simp
      have HR := Lib.hid (show SlIs tStr (· < wo.heap.size) wo (.slice aK (insAll (all.take all.length)).length cK) (insAll (la ++ lb)) from by
        have := HKS.out
        rw [List.take_length] at this ⊢
        rw [HALL.out]
        exact this)
      clear hk hlt
      go_wp2_with (fail)
      go_ret
      exact ⟨⟨_, rfl, HR.out⟩, bl_trans HBW.out HB.out⟩
end Go.Proofs.Ythdbojbblkfhaaa
