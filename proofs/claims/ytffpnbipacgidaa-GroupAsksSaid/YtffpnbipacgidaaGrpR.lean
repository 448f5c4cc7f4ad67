/-
  Layers 01, 13: the walks of the reference's Before, numbers, texts, first, raw, Compare.
-/
import Derived.Test.YtffpnbipacgidaaGrpC2
namespace Go.Proofs.Ytffpnbipacgidaa
open Go.RowKit Go.Tw Go.Tw.Ord Go.Tw.Grp Go.Sort
theorem gr_drewN {a : World} (n : Nat) : GrB a (a.drewN n) := ⟨n, #[], by rw [grow_empty]⟩
set_option maxRecDepth 100000 in
set_option maxHeartbeats 1000000 in
theorem Before_gr (s t : ByteArray) (w : World) (hs : s.size ≤ maxLen) (ht : t.size ≤ maxLen) :
    Calls Try.prog 80 #[.string s, .string t] w fun e w' => e = .returned (.bool (ltL (codes s) (codes t))) ∧ GrB w w' := by
  unfold maxLen at hs ht
  go_enter Try.func80, Try.ntmps80
  go_wp2
  go_loopg [5] s.size (fun g i wr => ∃ k : Nat, k + g = s.size ∧ k ≤ t.size ∧ i = .int .i64 k ∧ ltL (codes s) (codes t) = ltL ((codes s).drop k) ((codes t).drop k) ∧ ∃ n, wr = w.drewN n)
  case atStart => exact ⟨0, by omega, by omega, rfl, rfl, 0, rfl⟩
  case round =>
    obtain ⟨k, hk, hkt, rfl, he, n, rfl⟩ := hrel
    have HE := Lib.hid he; clear he
    by_cases h1 : k < s.size
    case neg =>
      have h1d : decide ((k : Int) < (s.size : Int)) = false := by simp; omega
      have HF := Lib.hid (ltL_end (a := codes s) (b := codes t) (k := k) (by rw [codes_len]; omega) (by rw [codes_len]; omega) (.inl (by rw [codes_len]; omega)))
      go_wp2
      go_ret
      exact ⟨ret_bool (by rw [HE.out, HF.out, codes_len, codes_len]), gr_drewN _⟩
    by_cases h2 : k < t.size
    case neg =>
      have HF := Lib.hid (ltL_end (a := codes s) (b := codes t) (k := k) (by rw [codes_len]; omega) (by rw [codes_len]; omega) (.inr (by rw [codes_len]; omega)))
      go_wp2
      go_ret
      exact ⟨ret_bool (by rw [HE.out, HF.out, codes_len, codes_len]), gr_drewN _⟩
    have k0 : (0 : Int) ≤ (k : Int) := by omega
    have k1 : (k : Int) < (s.size : Int) := by omega
    have k2 : (k : Int) < (t.size : Int) := by omega
    have HD := Lib.hid (ltL_drop (a := codes s) (b := codes t) (k := k) (by rw [codes_len]; exact h1) (by rw [codes_len]; exact h2))
    rw [codes_get s h1, codes_get t h2] at HD
    rcases Bool.eq_false_or_eq_true ((s[k].toNat : Int) == (t[k].toNat : Int)) with heq | heq
    · have HQ := Lib.hid (show (s[k].toNat : Int) = (t[k].toNat : Int) by simpa using heq)
      have hne : ((s[k].toNat : Int) != (t[k].toNat : Int)) = false := by simp [bne, heq]
      go_wp2_with (go_quiet (fail))
      go_roundg (s.size - (k + 1))
      case measure => omega
      case rel => exact ⟨k + 1, by omega, by omega, by go_num, by rw [HE.out, HD.out, if_pos HQ.out], _, rfl⟩
    · have HQ := Lib.hid (show ¬ (s[k].toNat : Int) = (t[k].toNat : Int) by simpa using heq)
      have hne : ((s[k].toNat : Int) != (t[k].toNat : Int)) = true := by simp [bne, heq]
      go_wp2_with (go_quiet (fail))
      go_ret
      exact ⟨ret_bool (by rw [HE.out, HD.out, if_neg HQ.out]; simp), by rw [World.drewN_drewN, World.drewN_drewN]; exact gr_drewN _⟩
theorem numbers_any (x y : Int) (w : World) : Calls Try.prog 62 #[.int .i64 x, .int .i64 y] w fun e w' => e = .returned (.int .i64 (cmpI x y)) ∧ w' = w := by
  go_enter Try.func62, Try.ntmps62
  by_cases h1 : x < y
  · go_wp2
    go_ret
    exact ⟨ret_int (if_pos h1), rfl⟩
  · by_cases h2 : x > y
    · go_wp2
      go_ret
      exact ⟨ret_int (by unfold cmpI; rw [if_neg (by omega), if_pos (by omega)]), rfl⟩
    · go_wp2
      go_ret
      exact ⟨ret_int (by unfold cmpI; rw [if_neg (by omega), if_neg (by omega)]), rfl⟩
set_option maxHeartbeats 1000000 in
theorem texts_any (a b : ByteArray) (w : World) (ha : a.size ≤ maxLen) (hb : b.size ≤ maxLen) : Calls Try.prog 63 #[.string a, .string b] w fun e w' => e = .returned (.int .i64 (cmpS a b)) ∧ GrB w w' := by
  have HA := Lib.hid ha
  have HB := Lib.hid hb
  clear ha hb
  by_cases h : a = b
  · subst h
    have h1 : (a.toList == a.toList) = true := by simp
    go_enter Try.func63, Try.ntmps63
    go_wp2
    go_ret
    refine ⟨ret_int ?_, GrB.refl _⟩
    unfold cmpS
    rw [ltL_irrefl]
    simp
  · have h1 : (a.toList == b.toList) = false := by rw [eq_str]; simpa using h
    have HN := Lib.hid h
    clear h
    obtain ⟨c, hc⟩ : ∃ c, ltL (codes a) (codes b) = c := ⟨_, rfl⟩
    have HC := Lib.hid (fun w => Before_gr a b w HA.out HB.out)
    rw [hc] at HC
    have HD := Lib.hid hc
    clear hc
    go_enter Try.func63, Try.ntmps63
    cases c with
    | false =>
      go_wp2_with (go_at_call 80; refine (HC.out _).mono ?_; rintro e w' ⟨rfl, hg⟩; have HG := Lib.hid hg; clear hg)
      go_ret
      refine ⟨ret_int ?_, HG.out⟩
      unfold cmpS
      rw [HD.out, if_neg (by simp), if_neg HN.out]
    | true =>
      go_wp2_with (go_at_call 80; refine (HC.out _).mono ?_; rintro e w' ⟨rfl, hg⟩; have HG := Lib.hid hg; clear hg)
      go_ret
      refine ⟨ret_int ?_, HG.out⟩
      unfold cmpS
      rw [HD.out, if_pos rfl]
theorem texts_ex (a b : ByteArray) (ha : a.size ≤ maxLen) (hb : b.size ≤ maxLen) : ∀ w, Calls Try.prog 63 #[.string a, .string b] w fun e w' => e = .returned (.int .i64 (cmpS a b)) ∧ ∃ q os', w' = grow (w.drewN q) os' := fun w => texts_any a b w ha hb
set_option maxHeartbeats 1000000 in
theorem first_any (l : List Int) (g : Nat) (w : World) (h : Row 3 w g l) (hl : l.length ≤ 100) :
    Calls Try.prog 61 #[.slice (some ⟨g, 0, none⟩) l.length l.length] w fun e w' => e = .returned (.int .i64 (orL l)) ∧ w' = w := by
  have HC := Lib.hid h
  clear h
  go_enter Try.func61, Try.ntmps61
  go_wp2
  go_loopg [3] l.length (fun gx i wr => ∃ k : Nat, k + gx = l.length ∧ i = .int .i64 k ∧ orL l = orL (l.drop k) ∧ wr = w)
  case atStart => exact ⟨0, by omega, rfl, rfl, rfl⟩
  case round =>
    obtain ⟨k, hk, rfl, he, rfl⟩ := hrel
    have HE := Lib.hid he
    clear he
    by_cases hlt : k < l.length
    · have k0 : (0 : Int) ≤ (k : Int) := by omega
      have k1 : (k : Int) < (l.length : Int) := by omega
      have c0 := HC.out.cell hlt
      have HD := Lib.hid (show orL (l.drop k) = if l[k] = 0 then orL (l.drop (k + 1)) else l[k] by rw [List.drop_eq_getElem_cons hlt, orL])
      obtain ⟨y, hy⟩ : ∃ y, l[k] = y := ⟨_, rfl⟩
      rw [hy] at c0 HD
      clear hy
      by_cases hz : y = 0
      · subst hz
        go_wp2
        go_roundg (l.length - (k + 1))
        case measure => omega
        case rel => exact ⟨k + 1, by omega, by go_num, by rw [HE.out, HD.out]; simp, rfl⟩
      · have hz' : (y != 0) = true := by simp [hz]
        have HZ := Lib.hid hz
        clear hz
        go_wp2
        go_ret
        exact ⟨ret_int (HE.out.trans (HD.out.trans (if_neg HZ.out))), rfl⟩
    · have hkl : ¬ (k : Int) < (l.length : Int) := by omega
      have HN := Lib.hid (show orL l = 0 by rw [HE.out, List.drop_eq_nil_of_le (by omega), orL])
      go_wp2
      go_ret
      exact ⟨ret_int HN.out, rfl⟩
set_option maxRecDepth 100000 in
set_option maxHeartbeats 4000000 in
theorem rawR_any (x y : Seen) (w : World) (hx : SeenOk x) (hy : SeenOk y) : Calls Try.prog 64 #[detVal x, detVal y] w fun e w' => e = .returned (.int .i64 (rawC x y)) ∧ GrB w w' := by
  show Calls Try.prog 64 #[.agg #[.string x.dev, .int .i64 x.seq, .int .i64 x.dtm, .string x.tag, .string x.plt, .int .i64 x.axl, .int .i64 x.sco], .agg #[.string y.dev, .int .i64 y.seq, .int .i64 y.dtm, .string y.tag, .string y.plt, .int .i64 y.axl, .int .i64 y.sco]] w _
  have T1 := Lib.hid (texts_ex x.dev y.dev hx.dev hy.dev)
  have T2 := Lib.hid (texts_ex x.tag y.tag hx.tag hy.tag)
  have T3 := Lib.hid (texts_ex x.plt y.plt hx.plt hy.plt)
  clear hx hy
  go_enter Try.func64, Try.ntmps64
  go_upto_region 1 with (fail)
  have n0 := alloc2_0 w (.cells (detCells x) 29) (.cells (detCells y) 29)
  have n1 := alloc2_1 w (.cells (detCells x) 29) (.cells (detCells y) 29)
  have hb : GrB w ((w.alloc (.cells (detCells x) 29)).alloc (.cells (detCells y) 29)) := ((GrB.refl w).alloc _).alloc _
  simp only [detCells] at n0 n1 hb
  obtain ⟨wa, hwa⟩ : ∃ wa, (w.alloc (.cells #[.string x.dev, .int .i64 x.seq, .int .i64 x.dtm, .string x.tag, .string x.plt, .int .i64 x.axl, .int .i64 x.sco] 29)).alloc (.cells #[.string y.dev, .int .i64 y.seq, .int .i64 y.dtm, .string y.tag, .string y.plt, .int .i64 y.axl, .int .i64 y.sco] 29) = wa := ⟨_, rfl⟩
  rw [hwa] at n0 n1 hb ⊢
  clear hwa
  have HB := Lib.hid hb
  clear hb
  have a0 := fun n os => grC n0 0 (v := .string x.dev) rfl n os
  have a1 := fun n os => grC n0 1 (v := .int .i64 x.seq) rfl n os
  have a2 := fun n os => grC n0 2 (v := .int .i64 x.dtm) rfl n os
  have a3 := fun n os => grC n0 3 (v := .string x.tag) rfl n os
  have a4 := fun n os => grC n0 4 (v := .string x.plt) rfl n os
  have a5 := fun n os => grC n0 5 (v := .int .i64 x.axl) rfl n os
  have a6 := fun n os => grC n0 6 (v := .int .i64 x.sco) rfl n os
  have b0 := fun n os => grC n1 0 (v := .string y.dev) rfl n os
  have b1 := fun n os => grC n1 1 (v := .int .i64 y.seq) rfl n os
  have b2 := fun n os => grC n1 2 (v := .int .i64 y.dtm) rfl n os
  have b3 := fun n os => grC n1 3 (v := .string y.tag) rfl n os
  have b4 := fun n os => grC n1 4 (v := .string y.plt) rfl n os
  have b5 := fun n os => grC n1 5 (v := .int .i64 y.axl) rfl n os
  have b6 := fun n os => grC n1 6 (v := .int .i64 y.sco) rfl n os
  clear n0 n1
  refine wp_region_grown_tail 35 (by kernel_rfl) (by kernel_rfl) ?_
  simp only [List.take_succ_cons, List.take_zero, List.drop_succ_cons, List.drop_zero]
  (repeat (quiet_step (first
                         | (go_at_call 62; with_reducible exact Calls.grown_of ((numbers_any _ _ _).mono (fun _ _ h => ⟨h.1, gr_same h.2⟩)))
                         | (go_at_call 63; with_reducible exact Calls.grown_of ((by first | with_reducible exact T1.out _ | with_reducible exact T2.out _ | with_reducible exact T3.out _))))))
  refine wpQuiet_nil ?_
  intro wq hq
  have HQ := Lib.hid (show GrB wa wq from by obtain ⟨⟨n, os⟩, rfl⟩ := hq; exact ⟨n, os, rfl⟩)
  clear hq a0 a1 a2 a3 a4 a5 a6 b0 b1 b2 b3 b4 b5 b6 T1 T2 T3
  have HR := Lib.hid (show rawC x y = orL [cmpS x.dev y.dev, cmpI x.seq y.seq, cmpI x.dtm y.dtm, cmpS x.tag y.tag, cmpS x.plt y.plt, cmpI x.axl y.axl, cmpI x.sco y.sco] from rfl)
  generalize cmpS x.dev y.dev = z0 at *
  generalize cmpI x.seq y.seq = z1 at *
  generalize cmpI x.dtm y.dtm = z2 at *
  generalize cmpS x.tag y.tag = z3 at *
  generalize cmpS x.plt y.plt = z4 at *
  generalize cmpI x.axl y.axl = z5 at *
  generalize cmpI x.sco y.sco = z6 at *
  have HOR := Lib.hid (show ∀ (g : Nat) (w : World), Row 3 w g [z0, z1, z2, z3, z4, z5, z6] → Calls Try.prog 61 #[.slice (some ⟨g, 0, none⟩) 7 7] w fun e w' => e = .returned (.int .i64 (orL [z0, z1, z2, z3, z4, z5, z6])) ∧ w' = w from fun g w h => first_any [z0, z1, z2, z3, z4, z5, z6] g w h (by simp))
  go_wp2_with (go_at_call 61; refine (HOR.out _ _ (by exact heap_alloc_new _ _)).mono ?_; rintro e w' ⟨rfl, rfl⟩)
  go_ret
  exact ⟨ret_int HR.out, (HB.out.trans HQ.out).alloc _⟩
set_option maxRecDepth 100000 in
set_option maxHeartbeats 4000000 in
theorem seenR_cmp (x y : Seen) (w : World) (hx : SeenOk x) (hy : SeenOk y) : Calls Try.prog 48 #[.agg (sCells x).toArray, .agg (sCells y).toArray] w fun e w' => e = .returned (.int .i64 (seenC x y)) ∧ GrB w w' := by
  obtain ⟨A, hA⟩ : ∃ A, (sCells x).toArray = A := ⟨_, rfl⟩
  obtain ⟨B, hB⟩ : ∃ A, (sCells y).toArray = A := ⟨_, rfl⟩
  rw [hA, hB]
  have HA := Lib.hid hA
  have HB' := Lib.hid hB
  have T1 := Lib.hid (texts_ex x.pt y.pt hx.pt hy.pt)
  have HRW := Lib.hid (fun W => rawR_any x y W hx hy)
  clear hA hB hx hy
  go_enter Try.func48, Try.ntmps48
  go_upto_region 1 with (fail)
  have n0 := alloc2_0 w (.cells A 31) (.cells B 31)
  have n1 := alloc2_1 w (.cells A 31) (.cells B 31)
  have hb : GrB w ((w.alloc (.cells A 31)).alloc (.cells B 31)) := ((GrB.refl w).alloc _).alloc _
  obtain ⟨wa, hwa⟩ : ∃ wa, (w.alloc (.cells A 31)).alloc (.cells B 31) = wa := ⟨_, rfl⟩
  rw [hwa] at n0 n1 hb ⊢
  clear hwa
  have HB := Lib.hid hb
  clear hb
  have a0 := fun n os => grC n0 0 (v := .string x.dev) (by rw [← HA.out]; rfl) n os
  have a1 := fun n os => grC n0 1 (v := .int .i64 x.seq) (by rw [← HA.out]; rfl) n os
  have a2 := fun n os => grC n0 2 (v := .int .i64 x.dtm) (by rw [← HA.out]; rfl) n os
  have a3 := fun n os => grC n0 3 (v := .string x.tag) (by rw [← HA.out]; rfl) n os
  have a4 := fun n os => grC n0 4 (v := .string x.plt) (by rw [← HA.out]; rfl) n os
  have a5 := fun n os => grC n0 5 (v := .int .i64 x.axl) (by rw [← HA.out]; rfl) n os
  have a6 := fun n os => grC n0 6 (v := .int .i64 x.sco) (by rw [← HA.out]; rfl) n os
  have a7 := fun n os => grC n0 7 (v := .int .i64 x.tm) (by rw [← HA.out]; rfl) n os
  have a8 := fun n os => grC n0 8 (v := .string x.pt) (by rw [← HA.out]; rfl) n os
  have a9 := fun n os => grC n0 9 (v := .int .i64 x.ln) (by rw [← HA.out]; rfl) n os
  have a10 := fun n os => grC n0 10 (v := .int .i64 x.kd) (by rw [← HA.out]; rfl) n os
  have b0 := fun n os => grC n1 0 (v := .string y.dev) (by rw [← HB'.out]; rfl) n os
  have b1 := fun n os => grC n1 1 (v := .int .i64 y.seq) (by rw [← HB'.out]; rfl) n os
  have b2 := fun n os => grC n1 2 (v := .int .i64 y.dtm) (by rw [← HB'.out]; rfl) n os
  have b3 := fun n os => grC n1 3 (v := .string y.tag) (by rw [← HB'.out]; rfl) n os
  have b4 := fun n os => grC n1 4 (v := .string y.plt) (by rw [← HB'.out]; rfl) n os
  have b5 := fun n os => grC n1 5 (v := .int .i64 y.axl) (by rw [← HB'.out]; rfl) n os
  have b6 := fun n os => grC n1 6 (v := .int .i64 y.sco) (by rw [← HB'.out]; rfl) n os
  have b7 := fun n os => grC n1 7 (v := .int .i64 y.tm) (by rw [← HB'.out]; rfl) n os
  have b8 := fun n os => grC n1 8 (v := .string y.pt) (by rw [← HB'.out]; rfl) n os
  have b9 := fun n os => grC n1 9 (v := .int .i64 y.ln) (by rw [← HB'.out]; rfl) n os
  have b10 := fun n os => grC n1 10 (v := .int .i64 y.kd) (by rw [← HB'.out]; rfl) n os
  clear n0 n1
  have hraw := HRW.out
  simp only [detVal] at hraw
  refine wp_region_grown_tail 25 (by kernel_rfl) (by kernel_rfl) ?_
  simp only [List.take_succ_cons, List.take_zero, List.drop_succ_cons, List.drop_zero]
  (repeat (quiet_step (first
    | (go_at_call 64; with_reducible exact Calls.grown_of (hraw _))
    | (first
         | (go_at_call 62; with_reducible exact Calls.grown_of ((numbers_any _ _ _).mono (fun _ _ h => ⟨h.1, gr_same h.2⟩)))
         | (go_at_call 63; with_reducible exact Calls.grown_of (by with_reducible exact T1.out _))))))
  refine wpQuiet_nil ?_
  intro wq hq
  have HQ := Lib.hid (show GrB wa wq from by obtain ⟨⟨n, os⟩, rfl⟩ := hq; exact ⟨n, os, rfl⟩)
  clear hq a0 a1 a2 a3 a4 a5 a6 a7 a8 a9 a10 b0 b1 b2 b3 b4 b5 b6 b7 b8 b9 b10 hraw T1 HRW
  have HR := Lib.hid (show seenC x y = orL [cmpI x.tm y.tm, cmpS x.pt y.pt, cmpI x.kd y.kd, cmpI x.ln y.ln, rawC x y] from rfl)
  generalize cmpI x.tm y.tm = z0 at *
  generalize cmpS x.pt y.pt = z1 at *
  generalize cmpI x.kd y.kd = z2 at *
  generalize cmpI x.ln y.ln = z3 at *
  generalize rawC x y = z4 at *
  have HOR := Lib.hid (show ∀ (g : Nat) (w : World), Row 3 w g [z0, z1, z2, z3, z4] → Calls Try.prog 61 #[.slice (some ⟨g, 0, none⟩) 5 5] w fun e w' => e = .returned (.int .i64 (orL [z0, z1, z2, z3, z4])) ∧ w' = w from fun g w h => first_any [z0, z1, z2, z3, z4] g w h (by simp))
  go_wp2_with (go_at_call 61; refine (HOR.out _ _ (by exact heap_alloc_new _ _)).mono ?_; rintro e w' ⟨rfl, rfl⟩)
  go_ret
  exact ⟨ret_int HR.out, (HB.out.trans HQ.out).alloc _⟩
end Go.Proofs.Ytffpnbipacgidaa
