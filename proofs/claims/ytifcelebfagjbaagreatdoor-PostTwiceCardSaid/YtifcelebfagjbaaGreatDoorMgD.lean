/-
  Layer proofs, merged: PoL PoD PoD2 PoF PoF2 PoF3.
-/
import Derived.Test.YtifcelebfagjbaaGreatDoorMgC
import Derived.Lib.LazyBuf
namespace Go.Tw.Po
open Go.RowKit Go.Tw Go.Sort Go.Tw.Ord
def fieldP (s : ByteArray) : Prop := s.size ≠ 0 ∧ ∀ i (h : i < s.size), 33 ≤ s[i].toNat ∧ s[i].toNat ≤ 126
open Classical in
noncomputable def fieldC (s : ByteArray) : Bool := decide (fieldP s)
theorem field_yes {s : ByteArray} (h : fieldP s) : fieldC s = true := by simp [fieldC, h]
theorem field_no {s : ByteArray} (h : ¬ fieldP s) : fieldC s = false := by simp [fieldC, h]
noncomputable def postE (p : SI) : Int := if fieldC p.s = false then 5 else if p.n = 0 then 14 else if fitsM p.n = false then 13 else 0
noncomputable def postsC (ps : List SI) : Int := if orL (ps.map postE) ≠ 0 then orL (ps.map postE) else if sumL ps ≠ 0 then 26 else 0
noncomputable def entC (e : Ent) : Int :=
 if fieldC e.key = false then 5 else if e.tm < 0 ∨ 68719476736 < e.tm then 12 else if e.ps.length = 0 then 1 else if 1024 < e.ps.length then 3 else postsC e.ps
theorem postE_5 {p : SI} (h : fieldC p.s = false) : postE p = 5 := by unfold postE; rw [if_pos h]
theorem postE_14 {p : SI} (h : fieldC p.s = true) (h2 : p.n = 0) : postE p = 14 := by unfold postE; rw [if_neg (by rw [h]; decide), if_pos h2]
theorem postE_13 {p : SI} (h : fieldC p.s = true) (h2 : p.n ≠ 0) (h3 : fitsM p.n = false) : postE p = 13 := by unfold postE; rw [if_neg (by rw [h]; decide), if_neg h2, if_pos h3]
theorem postE_0 {p : SI} (h : fieldC p.s = true) (h2 : p.n ≠ 0) (h3 : fitsM p.n = true) : postE p = 0 := by unfold postE; rw [if_neg (by rw [h]; decide), if_neg h2, if_neg (by rw [h3]; decide)]
theorem orL_drop {l : List SI} {k : Nat} (h : k < l.length) : orL ((l.drop k).map postE) = if postE l[k] = 0 then orL ((l.drop (k + 1)).map postE) else postE l[k] := by
 rw [List.drop_eq_getElem_cons h, List.map_cons, orL]
theorem posts_err {l : List SI} {x : Int} (h : orL (l.map postE) = x) (hx : x ≠ 0) : postsC l = x := by
 unfold postsC; rw [h, if_pos hx]
theorem posts_sum {l : List SI} (h : orL (l.map postE) = 0) : postsC l = if sumL l ≠ 0 then 26 else 0 := by
 unfold postsC; rw [h, if_neg (by simp)]
theorem ent_5 {e : Ent} (h : fieldC e.key = false) : entC e = 5 := by unfold entC; rw [if_pos h]
theorem ent_s {e : Ent} (h : fieldC e.key = true) : entC e = if e.tm < 0 ∨ 68719476736 < e.tm then 12 else if e.ps.length = 0 then 1 else if 1024 < e.ps.length then 3 else postsC e.ps := by
 unfold entC; rw [if_neg (by rw [h]; decide)]
end Go.Tw.Po
namespace Go.Proofs.YtifcelebfagjbaaGreatDoor
open Go.RowKit Go.Tw Go.Tw.Ord Go.Tw.Po Go.Sort
set_option maxHeartbeats 1000000 in
theorem field_any (s : ByteArray) (w : World) (hs : s.size ≤ maxLen) : Calls Tryz.prog 80 #[.string s] w fun e w' => e = .returned (.bool (fieldC s)) ∧ w = w' := by
 unfold maxLen at hs
 go_enter Tryz.func80, Tryz.ntmps80
 go_wp2
 go_loopg [6] s.size (fun g i wr => ∃ k : Nat, k + g = s.size ∧ i = .int .i64 k ∧ Hid (∀ i (h : i < k) (h2 : i < s.size), 33 ≤ s[i].toNat ∧ s[i].toNat ≤ 126) ∧ w = wr)
 case atStart => exact ⟨0, by omega, rfl, Lib.hid (fun i h => absurd h (Nat.not_lt_zero _)), rfl⟩
 case round =>
  obtain ⟨k, hk, rfl, HA, rfl⟩ := hrel
  by_cases hlt : k < s.size
  case neg =>
   by_cases h0 : s.size = 0
   · have he := emp_yes h0
     have HF := Lib.hid (show fieldC s = false from field_no (fun h => h.1 h0)); go_wp2; go_ret; exact ⟨ret_bool HF.out, rfl⟩
   · have he := emp_no h0
     have HF := Lib.hid (show fieldC s = true from field_yes ⟨h0, fun i h => HA.out i (by omega) h⟩); go_wp2; go_ret; exact ⟨ret_bool HF.out, rfl⟩
  have k0 : (0 : Int) ≤ (k : Int) := by omega
  have k1 : (k : Int) < (s.size : Int) := by omega
  have hz : s[k].toNat < 33 ∨ (33 ≤ s[k].toNat ∧ s[k].toNat ≤ 126) ∨ 126 < s[k].toNat := by omega
  rcases hz with q1 | ⟨q1, q2⟩ | q1
  · have g1 : (s[k].toNat : Int) < 33 := by omega
    have HF := Lib.hid (show fieldC s = false from field_no (fun h => by have := h.2 k hlt; omega)); clear q1; go_wp2; go_ret; exact ⟨ret_bool HF.out, rfl⟩
  · have g1 : decide ((s[k].toNat : Int) < 33) = false := by simp; omega
    have g2 : decide ((126 : Int) < (s[k].toNat : Int)) = false := by simp; omega
    have HQ := Lib.hid (show 33 ≤ s[k].toNat ∧ s[k].toNat ≤ 126 from ⟨q1, q2⟩); clear q1 q2; go_wp2
    go_roundg (s.size - (k + 1))
    case measure => omega
    case rel =>
     refine ⟨k + 1, by omega, by go_num, Lib.hid (fun i h h2 => ?_), rfl⟩
     by_cases e : i = k
     · subst e; exact HQ.out
     · exact HA.out i (by omega) h2
  · have g1 : decide ((s[k].toNat : Int) < 33) = false := by simp; omega
    have g2 : (126 : Int) < (s[k].toNat : Int) := by omega
    have HF := Lib.hid (show fieldC s = false from field_no (fun h => by have := h.2 k hlt; omega)); clear q1; go_wp2; go_ret; exact ⟨ret_bool HF.out, rfl⟩
set_option maxHeartbeats 1000000 in
theorem fieldR_any (s : ByteArray) (w : World) (hs : s.size ≤ maxLen) : Calls Tryz.prog 81 #[.string s] w fun e w' => e = .returned (.bool (fieldC s)) ∧ w = w' := by
 unfold maxLen at hs
 go_enter Tryz.func81, Tryz.ntmps81
 go_wp2
 go_loopg [3] s.size (fun g i wr => ∃ k : Nat, k + g = s.size ∧ i = .int .i64 k ∧ Hid (∀ i (h : i < k) (h2 : i < s.size), 33 ≤ s[i].toNat ∧ s[i].toNat ≤ 126) ∧ w = wr)
 case atStart => exact ⟨0, by omega, rfl, Lib.hid (fun i h => absurd h (Nat.not_lt_zero _)), rfl⟩
 case round =>
  obtain ⟨k, hk, rfl, HA, rfl⟩ := hrel
  by_cases hlt : k < s.size
  case neg =>
   by_cases h0 : s.size = 0
   · have he := emp_yes h0
     have HF := Lib.hid (show fieldC s = false from field_no (fun h => h.1 h0)); go_wp2; go_ret; exact ⟨ret_bool HF.out, rfl⟩
   · have he := emp_no h0
     have HF := Lib.hid (show fieldC s = true from field_yes ⟨h0, fun i h => HA.out i (by omega) h⟩); go_wp2; go_ret; exact ⟨ret_bool HF.out, rfl⟩
  have k0 : (0 : Int) ≤ (k : Int) := by omega
  have k1 : (k : Int) < (s.size : Int) := by omega
  have hz : s[k].toNat < 33 ∨ (33 ≤ s[k].toNat ∧ s[k].toNat ≤ 126) ∨ 126 < s[k].toNat := by omega
  rcases hz with q1 | ⟨q1, q2⟩ | q1
  · have g1 : (s[k].toNat : Int) < 33 := by omega
    have HF := Lib.hid (show fieldC s = false from field_no (fun h => by have := h.2 k hlt; omega)); clear q1; go_wp2; go_ret; exact ⟨ret_bool HF.out, rfl⟩
  · have g1 : decide ((s[k].toNat : Int) < 33) = false := by simp; omega
    have g2 : decide ((126 : Int) < (s[k].toNat : Int)) = false := by simp; omega
    have HQ := Lib.hid (show 33 ≤ s[k].toNat ∧ s[k].toNat ≤ 126 from ⟨q1, q2⟩); clear q1 q2; go_wp2
    go_roundg (s.size - (k + 1))
    case measure => omega
    case rel =>
     refine ⟨k + 1, by omega, by go_num, Lib.hid (fun i h h2 => ?_), rfl⟩
     by_cases e : i = k
     · subst e; exact HQ.out
     · exact HA.out i (by omega) h2
  · have g1 : decide ((s[k].toNat : Int) < 33) = false := by simp; omega
    have g2 : (126 : Int) < (s[k].toNat : Int) := by omega
    have HF := Lib.hid (show fieldC s = false from field_no (fun h => by have := h.2 k hlt; omega)); clear q1; go_wp2; go_ret; exact ⟨ret_bool HF.out, rfl⟩
def EntW (w : World) (x : Ent) (v : Value) (wr : World) : Prop := wr.heap[w.heap.size]? = some (.cells #[.string x.key, .int .i64 x.tm, v] 56 (0, 0)) ∧ Below w.heap.size w wr
theorem EntW.start (w : World) (x : Ent) (v : Value) : EntW w x v (w.alloc (.cells #[.string x.key, .int .i64 x.tm, v] 56)) := ⟨heap_alloc_new _ _, bl_alloc (Below.refl _ _) _⟩
theorem EntW.step {w wr w' : World} {x : Ent} {v : Value} (h : EntW w x v wr) (hb : Below wr.heap.size wr w') : EntW w x v w' := ⟨(hb.block _ (lt_of_heap h.1)).trans h.1, bl_trans h.2 hb⟩
theorem EntW.cells {w wr : World} {x : Ent} {v : Value} (h : EntW w x v wr) : wr.cell? ⟨w.heap.size, 0, none⟩ = some (.string x.key) ∧ wr.cell? ⟨w.heap.size, 1, none⟩ = some (.int .i64 x.tm) ∧ wr.cell? ⟨w.heap.size, 2, none⟩ = some v := by
 obtain ⟨n0, -⟩ := h
 refine ⟨?_, ?_, ?_⟩ <;> simp [World.cell?, n0]
set_option maxRecDepth 100000 in
set_option maxHeartbeats 2000000 in
theorem lcheck_any (x : Ent) (vx : Value) (w : World) (hx : EntOk x) (h : SlIs tSI (· < w.heap.size) w vx x.ps) :
  Calls Tryz.prog 45 #[.agg #[.string x.key, .int .i64 x.tm, vx]] w fun e w' => e = .returned (.int .i64 (entC x)) ∧ Below w.heap.size w w' := by
 obtain ⟨ao, cap, b, off, rfl, h1, h2, ho⟩ := si_open h; have HB := Lib.hid (EntW.start w x (.slice ao x.ps.length cap)); obtain ⟨k1, k5⟩ := hx; obtain ⟨r, hr⟩ : ∃ r, fieldC x.key = r := ⟨_, rfl⟩; have HKF := Lib.hid (show ∀ W, Calls Tryz.prog 80 #[.string x.key] W fun e w' => e = .returned (.bool r) ∧ W = w' from fun W => by rw [← hr]; exact field_any _ W k1); unfold maxLen at h2 k1; unfold i64ok at k5; have HO := Lib.hid ho; clear h ho
 cases r with
 | false =>
  have HE := Lib.hid (ent_5 (e := x) hr); clear hr
  go_enter Tryz.func45, Tryz.ntmps45
  go_wp2_with (go_at_call 80; refine (HKF.out _).mono ?_; rintro e w1 ⟨rfl, rfl⟩)
  go_ret; exact ⟨ret_int HE.out, HB.out.2⟩
 | true =>
  have HS := Lib.hid (ent_s (e := x) hr); clear hr; have htm : x.tm < 0 ∨ (0 ≤ x.tm ∧ 68719476736 < x.tm) ∨ (0 ≤ x.tm ∧ x.tm ≤ 68719476736) := by omega
  rcases htm with t3 | ⟨t3, t4⟩ | ⟨t3, t4⟩
  · have HE := Lib.hid (HS.out.trans (if_pos (.inl t3)))
    go_enter Tryz.func45, Tryz.ntmps45
    go_wp2_with (go_at_call 80; refine (HKF.out _).mono ?_; rintro e w1 ⟨rfl, rfl⟩)
    go_ret; exact ⟨ret_int HE.out, HB.out.2⟩
  · have HE := Lib.hid (HS.out.trans (if_pos (.inr t4)))
    go_enter Tryz.func45, Tryz.ntmps45
    go_wp2_with (go_at_call 80; refine (HKF.out _).mono ?_; rintro e w1 ⟨rfl, rfl⟩)
    go_ret; exact ⟨ret_int HE.out, HB.out.2⟩
  have HS := Lib.hid (HS.out.trans (if_neg (by omega)))
  by_cases l1 : x.ps.length = 0
  · have HE := Lib.hid (HS.out.trans (if_pos l1))
    have l2 : ((x.ps.length : Int) == 0) = true := by rw [l1]; rfl
    clear l1
    go_enter Tryz.func45, Tryz.ntmps45
    go_wp2_with (go_at_call 80; refine (HKF.out _).mono ?_; rintro e w1 ⟨rfl, rfl⟩)
    go_ret; exact ⟨ret_int HE.out, HB.out.2⟩
  have HS := Lib.hid (HS.out.trans (if_neg l1)); have l2 : ((x.ps.length : Int) == 0) = false := by rw [beq_eq_false_iff_ne]; omega
  clear l1
  by_cases l3 : 1024 < x.ps.length
  · have HE := Lib.hid (HS.out.trans (if_pos l3))
    have l4 : (1024 : Int) < (x.ps.length : Int) := by omega
    clear l3
    go_enter Tryz.func45, Tryz.ntmps45
    go_wp2_with (go_at_call 80; refine (HKF.out _).mono ?_; rintro e w1 ⟨rfl, rfl⟩)
    go_ret; exact ⟨ret_int HE.out, HB.out.2⟩
  have HS := Lib.hid (HS.out.trans (if_neg l3)); have l4 : decide ((1024 : Int) < (x.ps.length : Int)) = false := by simp; omega
  go_enter Tryz.func45, Tryz.ntmps45
  go_wp2_with (go_at_call 80; refine (HKF.out _).mono ?_; rintro e w1 ⟨rfl, rfl⟩)
  go_loopg [3, 33] x.ps.length (fun g s i wr => ∃ (k : Nat) (n : Int), k + g = x.ps.length ∧ i = .int .i64 k ∧ s = .int .i64 n ∧ Hid (sumL (x.ps.take k) = n) ∧ Hid (orL (x.ps.map postE) = orL ((x.ps.drop k).map postE)) ∧ -1125899906842624 * (k : Int) ≤ n ∧ n ≤ 1125899906842624 * (k : Int) ∧ EntW w x (.slice ao x.ps.length cap) wr)
  case atStart => exact ⟨0, 0, by omega, rfl, rfl, Lib.hid rfl, Lib.hid rfl, by omega, by omega, HB.out⟩
  case round =>
   obtain ⟨k, n, hk, rfl, rfl, HN, HL, n1, n2, hw⟩ := hrel; have HW := Lib.hid hw; obtain ⟨d0, d1, d2⟩ := hw.cells
   by_cases hlt : k < x.ps.length
   · obtain ⟨rfl, -, hbw, hok, c0, c1⟩ := HO.out wr (.of_below hw.2) k hlt
     have k0 : (0 : Int) ≤ (k : Int) := by omega
     have k1 : (k : Int) < (x.ps.length : Int) := by omega
     have HB1 := Lib.hid (hw.step (bl_alloc (Below.refl wr.heap.size wr) (.cells #[.string x.ps[k].s, .int .i64 x.ps[k].n] 101))); have HSM := Lib.hid (sumL_take hlt); have HD := Lib.hid (orL_drop hlt); generalize x.ps[k] = p at *; obtain ⟨ps, pn⟩ := p; simp only at *; have HERR := Lib.hid (show ∀ z, postE ⟨ps, pn⟩ = z → z ≠ 0 → entC x = z from fun z hz hz0 => HS.out.trans (posts_err (HL.out.trans (HD.out.trans (by rw [hz, if_neg hz0]))) hz0)); obtain ⟨r, hr⟩ : ∃ r, fieldC ps = r := ⟨_, rfl⟩; have HFF := Lib.hid (show ∀ W, Calls Tryz.prog 80 #[.string ps] W fun e w' => e = .returned (.bool r) ∧ W = w' from fun W => by rw [← hr]; exact field_any _ W hok.s); obtain ⟨q, hq⟩ : ∃ q, fitsM pn = q := ⟨_, rfl⟩; have HFT := Lib.hid (show ∀ W, Calls Tryz.prog 33 #[.int .i64 pn] W fun e w' => e = .returned (.bool q) ∧ W = w' from fun W => by rw [← hq]; exact mFits_any _ W); have HR := Lib.hid hr; have HQ := Lib.hid hq; clear hr hq hok hw
     cases r with
     | false =>
      have HE := Lib.hid (HERR.out 5 (postE_5 HR.out) (by decide))
      go_wp2_with (first
                   | (go_at_call 80; refine (HFF.out _).mono ?_; rintro e w1 ⟨rfl, rfl⟩)
                   | (go_at_call 33; refine (HFT.out _).mono ?_; rintro e w1 ⟨rfl, rfl⟩))
      go_ret; exact ⟨ret_int HE.out, HB1.out.2⟩
     | true =>
      by_cases z : pn = 0
      · have HE := Lib.hid (HERR.out 14 (postE_14 HR.out z) (by decide))
        have z1 : (pn == 0) = true := by simpa using z
        clear z
        go_wp2_with (first
                     | (go_at_call 80; refine (HFF.out _).mono ?_; rintro e w1 ⟨rfl, rfl⟩)
                     | (go_at_call 33; refine (HFT.out _).mono ?_; rintro e w1 ⟨rfl, rfl⟩))
        go_ret; exact ⟨ret_int HE.out, HB1.out.2⟩
      have z1 : (pn == 0) = false := by simpa using z
      have HZ := Lib.hid z; clear z
      cases q with
      | false =>
       have HE := Lib.hid (HERR.out 13 (postE_13 HR.out HZ.out HQ.out) (by decide))
       go_wp2_with (first
                    | (go_at_call 80; refine (HFF.out _).mono ?_; rintro e w1 ⟨rfl, rfl⟩)
                    | (go_at_call 33; refine (HFT.out _).mono ?_; rintro e w1 ⟨rfl, rfl⟩))
       go_ret; exact ⟨ret_int HE.out, HB1.out.2⟩
      | true =>
       have hx := fitsM_iff.1 HQ.out; have hw : IntKind.i64.wrap (n + pn) = n + pn := wrap_in (by omega) (by omega); have HX := Lib.hid (show orL (x.ps.map postE) = orL ((x.ps.drop (k + 1)).map postE) from HL.out.trans (HD.out.trans (if_pos (postE_0 HR.out HZ.out HQ.out))))
       go_wp2_with (first
                    | (go_at_call 80; refine (HFF.out _).mono ?_; rintro e w1 ⟨rfl, rfl⟩)
                    | (go_at_call 33; refine (HFT.out _).mono ?_; rintro e w1 ⟨rfl, rfl⟩))
       go_roundg (x.ps.length - (k + 1))
       case measure => omega
       case rel => exact ⟨k + 1, n + pn, by omega, by go_num, by go_num, Lib.hid (by rw [HSM.out, HN.out]), HX, by omega, by omega, HB1.out⟩
   · have hkd : decide ((k : Int) < (x.ps.length : Int)) = false := by simp; omega
     obtain rfl : k = x.ps.length := by omega
     have hn : sumL x.ps = n := by have := HN.out; rwa [List.take_length] at this
     have hz : orL (x.ps.map postE) = 0 := by have := HL.out; rw [List.drop_length] at this; exact this
     have HP := Lib.hid (HS.out.trans (posts_sum hz)); rw [hn] at HP; clear hn hz hw
     by_cases t : n = 0
     · have HE := Lib.hid (HP.out.trans (if_neg (by simpa using t)))
       have t1 : (n != 0) = false := by simpa using t
       clear t; go_wp2; go_ret; exact ⟨ret_int HE.out, HW.out.2⟩
     · have HE := Lib.hid (HP.out.trans (if_pos t))
       have t1 : (n != 0) = true := by simpa using t
       clear t; go_wp2; go_ret; exact ⟨ret_int HE.out, HW.out.2⟩
set_option maxRecDepth 100000 in
set_option maxHeartbeats 2000000 in
theorem lcheckR_any (x : Ent) (vx : Value) (w : World) (hx : EntOk x) (h : SlIs tSI (· < w.heap.size) w vx x.ps) :
  Calls Tryz.prog 46 #[.agg #[.string x.key, .int .i64 x.tm, vx]] w fun e w' => e = .returned (.int .i64 (entC x)) ∧ Below w.heap.size w w' := by
 obtain ⟨ao, cap, b, off, rfl, h1, h2, ho⟩ := si_open h; have HB := Lib.hid (EntW.start w x (.slice ao x.ps.length cap)); obtain ⟨k1, k5⟩ := hx; obtain ⟨r, hr⟩ : ∃ r, fieldC x.key = r := ⟨_, rfl⟩; have HKF := Lib.hid (show ∀ W, Calls Tryz.prog 81 #[.string x.key] W fun e w' => e = .returned (.bool r) ∧ W = w' from fun W => by rw [← hr]; exact fieldR_any _ W k1); unfold maxLen at h2 k1; unfold i64ok at k5; have HO := Lib.hid ho; clear h ho
 cases r with
 | false =>
  have HE := Lib.hid (ent_5 (e := x) hr); clear hr
  go_enter Tryz.func46, Tryz.ntmps46
  go_wp2_with (go_at_call 81; refine (HKF.out _).mono ?_; rintro e w1 ⟨rfl, rfl⟩)
  go_ret; exact ⟨ret_int HE.out, HB.out.2⟩
 | true =>
  have HS := Lib.hid (ent_s (e := x) hr); clear hr; have htm : x.tm < 0 ∨ (0 ≤ x.tm ∧ 68719476736 < x.tm) ∨ (0 ≤ x.tm ∧ x.tm ≤ 68719476736) := by omega
  rcases htm with t3 | ⟨t3, t4⟩ | ⟨t3, t4⟩
  · have HE := Lib.hid (HS.out.trans (if_pos (.inl t3)))
    go_enter Tryz.func46, Tryz.ntmps46
    go_wp2_with (go_at_call 81; refine (HKF.out _).mono ?_; rintro e w1 ⟨rfl, rfl⟩)
    go_ret; exact ⟨ret_int HE.out, HB.out.2⟩
  · have HE := Lib.hid (HS.out.trans (if_pos (.inr t4)))
    go_enter Tryz.func46, Tryz.ntmps46
    go_wp2_with (go_at_call 81; refine (HKF.out _).mono ?_; rintro e w1 ⟨rfl, rfl⟩)
    go_ret; exact ⟨ret_int HE.out, HB.out.2⟩
  have HS := Lib.hid (HS.out.trans (if_neg (by omega)))
  by_cases l1 : x.ps.length = 0
  · have HE := Lib.hid (HS.out.trans (if_pos l1))
    have l2 : ((x.ps.length : Int) == 0) = true := by rw [l1]; rfl
    clear l1
    go_enter Tryz.func46, Tryz.ntmps46
    go_wp2_with (go_at_call 81; refine (HKF.out _).mono ?_; rintro e w1 ⟨rfl, rfl⟩)
    go_ret; exact ⟨ret_int HE.out, HB.out.2⟩
  have HS := Lib.hid (HS.out.trans (if_neg l1)); have l2 : ((x.ps.length : Int) == 0) = false := by rw [beq_eq_false_iff_ne]; omega
  clear l1
  by_cases l3 : 1024 < x.ps.length
  · have HE := Lib.hid (HS.out.trans (if_pos l3))
    have l4 : (1024 : Int) < (x.ps.length : Int) := by omega
    clear l3
    go_enter Tryz.func46, Tryz.ntmps46
    go_wp2_with (go_at_call 81; refine (HKF.out _).mono ?_; rintro e w1 ⟨rfl, rfl⟩)
    go_ret; exact ⟨ret_int HE.out, HB.out.2⟩
  have HS := Lib.hid (HS.out.trans (if_neg l3)); have l4 : decide ((1024 : Int) < (x.ps.length : Int)) = false := by simp; omega
  go_enter Tryz.func46, Tryz.ntmps46
  go_wp2_with (go_at_call 81; refine (HKF.out _).mono ?_; rintro e w1 ⟨rfl, rfl⟩)
  go_loopg [3, 4] x.ps.length (fun g s i wr => ∃ (k : Nat) (n : Int), k + g = x.ps.length ∧ i = .int .i64 k ∧ s = .int .i64 n ∧ Hid (sumL (x.ps.take k) = n) ∧ Hid (orL (x.ps.map postE) = orL ((x.ps.drop k).map postE)) ∧ -1125899906842624 * (k : Int) ≤ n ∧ n ≤ 1125899906842624 * (k : Int) ∧ EntW w x (.slice ao x.ps.length cap) wr)
  case atStart => exact ⟨0, 0, by omega, rfl, rfl, Lib.hid rfl, Lib.hid rfl, by omega, by omega, HB.out⟩
  case round =>
   obtain ⟨k, n, hk, rfl, rfl, HN, HL, n1, n2, hw⟩ := hrel; have HW := Lib.hid hw; obtain ⟨d0, d1, d2⟩ := hw.cells
   by_cases hlt : k < x.ps.length
   · obtain ⟨rfl, -, hbw, hok, c0, c1⟩ := HO.out wr (.of_below hw.2) k hlt
     have k0 : (0 : Int) ≤ (k : Int) := by omega
     have k1 : (k : Int) < (x.ps.length : Int) := by omega
     have HB1 := Lib.hid (hw.step (bl_alloc (Below.refl wr.heap.size wr) (.cells #[.string x.ps[k].s, .int .i64 x.ps[k].n] 101))); have HSM := Lib.hid (sumL_take hlt); have HD := Lib.hid (orL_drop hlt); generalize x.ps[k] = p at *; obtain ⟨ps, pn⟩ := p; simp only at *; have HERR := Lib.hid (show ∀ z, postE ⟨ps, pn⟩ = z → z ≠ 0 → entC x = z from fun z hz hz0 => HS.out.trans (posts_err (HL.out.trans (HD.out.trans (by rw [hz, if_neg hz0]))) hz0)); obtain ⟨r, hr⟩ : ∃ r, fieldC ps = r := ⟨_, rfl⟩; have HFF := Lib.hid (show ∀ W, Calls Tryz.prog 81 #[.string ps] W fun e w' => e = .returned (.bool r) ∧ W = w' from fun W => by rw [← hr]; exact fieldR_any _ W hok.s); obtain ⟨q, hq⟩ : ∃ q, fitsM pn = q := ⟨_, rfl⟩; have HFT := Lib.hid (show ∀ W, Calls Tryz.prog 82 #[.int .i64 pn] W fun e w' => e = .returned (.bool q) ∧ W = w' from fun W => by rw [← hq]; exact fits32_any _ W); have HR := Lib.hid hr; have HQ := Lib.hid hq; clear hr hq hok hw
     cases r with
     | false =>
      have HE := Lib.hid (HERR.out 5 (postE_5 HR.out) (by decide))
      go_wp2_with (first
                   | (go_at_call 81; refine (HFF.out _).mono ?_; rintro e w1 ⟨rfl, rfl⟩)
                   | (go_at_call 82; refine (HFT.out _).mono ?_; rintro e w1 ⟨rfl, rfl⟩))
      go_ret; exact ⟨ret_int HE.out, HB1.out.2⟩
     | true =>
      by_cases z : pn = 0
      · have HE := Lib.hid (HERR.out 14 (postE_14 HR.out z) (by decide))
        have z1 : (pn == 0) = true := by simpa using z
        clear z
        go_wp2_with (first
                     | (go_at_call 81; refine (HFF.out _).mono ?_; rintro e w1 ⟨rfl, rfl⟩)
                     | (go_at_call 82; refine (HFT.out _).mono ?_; rintro e w1 ⟨rfl, rfl⟩))
        go_ret; exact ⟨ret_int HE.out, HB1.out.2⟩
      have z1 : (pn == 0) = false := by simpa using z
      have HZ := Lib.hid z; clear z
      cases q with
      | false =>
       have HE := Lib.hid (HERR.out 13 (postE_13 HR.out HZ.out HQ.out) (by decide))
       go_wp2_with (first
                    | (go_at_call 81; refine (HFF.out _).mono ?_; rintro e w1 ⟨rfl, rfl⟩)
                    | (go_at_call 82; refine (HFT.out _).mono ?_; rintro e w1 ⟨rfl, rfl⟩))
       go_ret; exact ⟨ret_int HE.out, HB1.out.2⟩
      | true =>
       have hx := fitsM_iff.1 HQ.out; have hw : IntKind.i64.wrap (n + pn) = n + pn := wrap_in (by omega) (by omega); have HX := Lib.hid (show orL (x.ps.map postE) = orL ((x.ps.drop (k + 1)).map postE) from HL.out.trans (HD.out.trans (if_pos (postE_0 HR.out HZ.out HQ.out))))
       go_wp2_with (first
                    | (go_at_call 81; refine (HFF.out _).mono ?_; rintro e w1 ⟨rfl, rfl⟩)
                    | (go_at_call 82; refine (HFT.out _).mono ?_; rintro e w1 ⟨rfl, rfl⟩))
       go_roundg (x.ps.length - (k + 1))
       case measure => omega
       case rel => exact ⟨k + 1, n + pn, by omega, by go_num, by go_num, Lib.hid (by rw [HSM.out, HN.out]), HX, by omega, by omega, HB1.out⟩
   · have hkd : decide ((k : Int) < (x.ps.length : Int)) = false := by simp; omega
     obtain rfl : k = x.ps.length := by omega
     have hn : sumL x.ps = n := by have := HN.out; rwa [List.take_length] at this
     have hz : orL (x.ps.map postE) = 0 := by have := HL.out; rw [List.drop_length] at this; exact this
     have HP := Lib.hid (HS.out.trans (posts_sum hz)); rw [hn] at HP; clear hn hz hw
     by_cases t : n = 0
     · have HE := Lib.hid (HP.out.trans (if_neg (by simpa using t)))
       have t1 : (n != 0) = false := by simpa using t
       clear t; go_wp2; go_ret; exact ⟨ret_int HE.out, HW.out.2⟩
     · have HE := Lib.hid (HP.out.trans (if_pos t))
       have t1 : (n != 0) = true := by simpa using t
       clear t; go_wp2; go_ret; exact ⟨ret_int HE.out, HW.out.2⟩
end Go.Proofs.YtifcelebfagjbaaGreatDoor
namespace Go.Proofs.YtifcelebfagjbaaGreatDoor
open Go.RowKit Go.Tw Go.Tw.Ord Go.Tw.Po Go.Sort
theorem slLin : SlT Tryz.prog 47 140 2 24 := SlT.of (z := .agg #[.string ByteArray.empty, .int .i64 0]) Tryz.underlying47 (by kernel_rfl) rfl (by decide)
theorem slPst : SlT Tryz.prog 54 101 2 24 := SlT.of (z := .agg #[.string ByteArray.empty, .int .i64 0]) Tryz.underlying54 (by kernel_rfl) rfl (by decide)
theorem slEnt : SlT Tryz.prog 66 56 3 48 := SlT.of (z := .agg #[.string ByteArray.empty, .int .i64 0, .slice none 0 0]) Tryz.underlying66 (by kernel_rfl) rfl (by decide)
theorem slChg : SlT Tryz.prog 52 49 7 96 := SlT.of (z := .agg #[.string ByteArray.empty, .string ByteArray.empty, .string ByteArray.empty, .int .i64 0, .int .i64 0, .slice none 0 0, .int .i64 0]) Tryz.underlying52 (by kernel_rfl) rfl (by decide)
set_option maxHeartbeats 400000 in
theorem cloneL_any (l : List SI) (v : Value) (w : World) (h : SlIs tSI (· < w.heap.size) w v l) (hlen : l.length ≤ 1000000) :
  Calls Tryz.prog 89 #[v] w fun e w' => ∃ v', e = .returned v' ∧ NewL tSI 140 w.heap.size w' v' l ∧ Below w.heap.size w w' := by
 have h' := h; obtain ⟨ao, cap, b, off, hv, hl, hm, h3, ho⟩ := h; subst hv; have heq := fun w => Lib.run_eql_slice_nil (P := Tryz.prog) w 47 140 ao l.length cap 0 0 Tryz.underlying47
 cases ao with
 | none =>
  have hc := h3 rfl; subst hc; obtain rfl : l = [] := List.eq_nil_of_length_eq_zero (by omega); simp only [List.length_nil] at heq; clear h3 ho h'
  go_enter Tryz.func89, Tryz.ntmps89
  go_wp2; go_ret; exact ⟨_, rfl, NewL.nil, Below.refl _ _⟩
 | some a =>
  have HH := Lib.hid h'; clear h3 ho h'; have o0 : OwnSl tSI 140 w.heap.size (w.alloc (.cells #[] 140)) (.slice (some ⟨w.heap.size, 0, none⟩) 0 0) [] := OwnSl.lit (css := []) rfl trivial (Nat.le_refl _) (by decide); have h2 : SlIs tSI (· < w.heap.size) (w.alloc (.cells #[] 140)) (.slice (some a) l.length cap) l := HH.out.keep (fun _ h => h) (fun k hk => Below.heap_alloc _ _ _ hk); have H2 := Lib.hid h2; have HO := Lib.hid o0; have HL := Lib.hid hlen; clear o0 h2
  go_enter Tryz.func89, Tryz.ntmps89
  go_wp2_with (at_builtin; refine wpList_append_old (.tmp 5) (.tmp 6) rfl 47 rfl slLin rfl HO.out rfl H2.out (small_bytes (k := 1000000) (by simpa using HL.out) (by decide)) (Nat.le_trans (by simpa using HL.out) (show 1000000 ≤ maxLen by decide)) (by simp) ?_; intro v' w1 ho1 hg1 hb1)
  go_ret; exact ⟨_, rfl, NewL.ofOwn ownSI ho1 (Nat.le_refl _), (bl_alloc (Below.refl _ _) _).trans hb1⟩
set_option maxHeartbeats 400000 in
theorem cloneP_any (l : List SI) (v : Value) (w : World) (h : SlIs tSI (· < w.heap.size) w v l) (hlen : l.length ≤ 1000000) :
  Calls Tryz.prog 88 #[v] w fun e w' => ∃ v', e = .returned v' ∧ NewL tSI 101 w.heap.size w' v' l ∧ Below w.heap.size w w' := by
 have h' := h; obtain ⟨ao, cap, b, off, hv, hl, hm, h3, ho⟩ := h; subst hv; have heq := fun w => Lib.run_eql_slice_nil (P := Tryz.prog) w 54 101 ao l.length cap 0 0 Tryz.underlying54
 cases ao with
 | none =>
  have hc := h3 rfl; subst hc; obtain rfl : l = [] := List.eq_nil_of_length_eq_zero (by omega); simp only [List.length_nil] at heq; clear h3 ho h'
  go_enter Tryz.func88, Tryz.ntmps88
  go_wp2; go_ret; exact ⟨_, rfl, NewL.nil, Below.refl _ _⟩
 | some a =>
  have HH := Lib.hid h'; clear h3 ho h'; have o0 : OwnSl tSI 101 w.heap.size (w.alloc (.cells #[] 101)) (.slice (some ⟨w.heap.size, 0, none⟩) 0 0) [] := OwnSl.lit (css := []) rfl trivial (Nat.le_refl _) (by decide); have h2 : SlIs tSI (· < w.heap.size) (w.alloc (.cells #[] 101)) (.slice (some a) l.length cap) l := HH.out.keep (fun _ h => h) (fun k hk => Below.heap_alloc _ _ _ hk); have H2 := Lib.hid h2; have HO := Lib.hid o0; have HL := Lib.hid hlen; clear o0 h2
  go_enter Tryz.func88, Tryz.ntmps88
  go_wp2_with (at_builtin; refine wpList_append_old (.tmp 5) (.tmp 6) rfl 54 rfl slPst rfl HO.out rfl H2.out (small_bytes (k := 1000000) (by simpa using HL.out) (by decide)) (Nat.le_trans (by simpa using HL.out) (show 1000000 ≤ maxLen by decide)) (by simp) ?_; intro v' w1 ho1 hg1 hb1)
  go_ret; exact ⟨_, rfl, NewL.ofOwn ownSI ho1 (Nat.le_refl _), (bl_alloc (Below.refl _ _) _).trans hb1⟩
end Go.Proofs.YtifcelebfagjbaaGreatDoor
namespace Go.Tw
theorem blk7 {w : World} {g : Nat} {a b c d e f h : Value} {t : TypeId} (H : w.heap[g]? = some (.cells #[a, b, c, d, e, f, h] t (0, 0))) : w.cell? ⟨g, 0, none⟩ = some a ∧ w.cell? ⟨g, 1, none⟩ = some b ∧ w.cell? ⟨g, 2, none⟩ = some c ∧ w.cell? ⟨g, 3, none⟩ = some d ∧ w.cell? ⟨g, 4, none⟩ = some e ∧ w.cell? ⟨g, 5, none⟩ = some f ∧ w.cell? ⟨g, 6, none⟩ = some h ∧ ∀ j, w.frozen? ⟨g, j, none⟩ = false := ⟨cell_of_row _ _ 0 _ _ _ H, cell_of_row _ _ 1 _ _ _ H, cell_of_row _ _ 2 _ _ _ H, cell_of_row _ _ 3 _ _ _ H, cell_of_row _ _ 4 _ _ _ H, cell_of_row _ _ 5 _ _ _ H, cell_of_row _ _ 6 _ _ _ H, fun j => frozen_of_row _ _ j _ _ H⟩
end Go.Tw
namespace Go.Proofs.YtifcelebfagjbaaGreatDoor
open Go.RowKit Go.Tw Go.Tw.Ord Go.Tw.Po Go.Sort
set_option maxHeartbeats 400000 in
theorem cloneE_any (f : Ent) (h : Value) (w : World) (hi : SlIs tSI (· < w.heap.size) w h f.ps) (hlen : f.ps.length ≤ 1000000) :
  Calls Tryz.prog 106 #[.agg #[.string f.key, .int .i64 f.tm, h]] w
   fun e w' => ∃ h', e = .returned (.agg #[.string f.key, .int .i64 f.tm, h']) ∧ NewL tSI 101 w.heap.size w' h' f.ps ∧ Below w.heap.size w w' := by
 obtain ⟨ha, hcp, bb, boff, rfl, hn1, hn2, -⟩ := si_open hi
 let W1 := (w.alloc (.cells #[.string f.key, .int .i64 f.tm, .slice ha f.ps.length hcp] 56)).alloc (.cells #[.string ByteArray.empty, .int .i64 0, .slice none 0 0] 56)
 have b1 : Below w.heap.size w W1 := bl_alloc (bl_alloc (Below.refl _ _) _) _
 go_enter Tryz.func106, Tryz.ntmps106
 go_wp2_with (fail)
 refine (cloneP_any f.ps _ _ (hi.step b1) hlen).mono ?_; rintro e w2 ⟨h', rfl, hs, hb2⟩; obtain ⟨ao', cap', rfl, -⟩ := hs.form; have hs' := hs; clear hs; have hsz : W1.heap.size = w.heap.size + 2 := by simp [W1]
 have hz2 := hb2.size; have n0 : w2.heap[w.heap.size]? = _ := (hb2.block _ (by omega)).trans (heap_alloc2_old w _ _); have n1 : w2.heap[w.heap.size + 1]? = _ := (hb2.block _ (by omega)).trans (heap_alloc2_new w _ _); have l0 : w.heap.size < w2.heap.size := by omega
 have l1 : w.heap.size + 1 < w2.heap.size := by omega
 obtain ⟨c0, c1, c2, cf⟩ := blk3 n0; obtain ⟨d0, d1, d2, df⟩ := blk3 n1; rw [hsz] at hs'; have HS := Lib.hid hs'; have b2 := bl_trans b1 hb2; clear n0 n1 hs' hsz hz2 hn1 hn2 hi b1 hb2; clear W1; go_wp2; refine bodyPost_ret (v := .agg #[.string f.key, .int .i64 f.tm, .slice ao' f.ps.length cap']) (by simp [results, Tryz.results106, go_sem, d0, d1, d2]) rfl ⟨_, rfl, ?_, ?_⟩
 · refine (HS.out.same ?_).mono (by omega)
   (repeat (first | (with_reducible exact SameOn.refl _ _) | (with_reducible exact SameOn.refl _ _) | ((with_reducible refine SameOn.set ?_ ?_ _); rotate_left; focus (first | (simp; done) | (simp; omega))) | (with_reducible apply SameOn.drewN)))
 · (repeat (first | (with_reducible exact b2) | (with_reducible apply bl_drewN) | (with_reducible apply bl_alloc) | ((with_reducible refine bl_set ?_ _ ?_); rotate_left; focus (first | exact Nat.le_refl _ | (simp; done) | (simp; omega)))))
set_option maxHeartbeats 800000 in
theorem cloneC_any (f : Chg) (h : Value) (w : World) (hi : SlIs tSI (· < w.heap.size) w h f.ls) (hlen : f.ls.length ≤ 1000000) :
  Calls Tryz.prog 52 #[.agg #[.string f.key, .string f.veh, .string f.sys, .int .i64 f.cls, .int .i64 f.tm, h, .int .i64 f.c]] w
   fun e w' => ∃ h', e = .returned (.agg #[.string f.key, .string f.veh, .string f.sys, .int .i64 f.cls, .int .i64 f.tm, h', .int .i64 f.c]) ∧ NewL tSI 140 w.heap.size w' h' f.ls ∧ Below w.heap.size w w' := by
 obtain ⟨ha, hcp, bb, boff, rfl, hn1, hn2, -⟩ := si_open hi
 let W1 := (w.alloc (.cells #[.string f.key, .string f.veh, .string f.sys, .int .i64 f.cls, .int .i64 f.tm, .slice ha f.ls.length hcp, .int .i64 f.c] 49)).alloc (.cells #[.string ByteArray.empty, .string ByteArray.empty, .string ByteArray.empty, .int .i64 0, .int .i64 0, .slice none 0 0, .int .i64 0] 49)
 have b1 : Below w.heap.size w W1 := bl_alloc (bl_alloc (Below.refl _ _) _) _
 go_enter Tryz.func52, Tryz.ntmps52
 go_wp2_with (fail)
 refine (cloneL_any f.ls _ _ (hi.step b1) hlen).mono ?_; rintro e w2 ⟨h', rfl, hs, hb2⟩; obtain ⟨ao', cap', rfl, -⟩ := hs.form; have hs' := hs; clear hs; have hsz : W1.heap.size = w.heap.size + 2 := by simp [W1]
 have hz2 := hb2.size; have n0 : w2.heap[w.heap.size]? = _ := (hb2.block _ (by omega)).trans (heap_alloc2_old w _ _); have n1 : w2.heap[w.heap.size + 1]? = _ := (hb2.block _ (by omega)).trans (heap_alloc2_new w _ _); have l0 : w.heap.size < w2.heap.size := by omega
 have l1 : w.heap.size + 1 < w2.heap.size := by omega
 obtain ⟨c0, c1, c2, c3, c4, c5, c6, cf⟩ := blk7 n0; obtain ⟨d0, d1, d2, d3, d4, d5, d6, df⟩ := blk7 n1; rw [hsz] at hs'; have HS := Lib.hid hs'; have b2 := bl_trans b1 hb2; clear n0 n1 hs' hsz hz2 hn1 hn2 hi b1 hb2; clear W1; go_wp2; refine bodyPost_ret (v := .agg #[.string f.key, .string f.veh, .string f.sys, .int .i64 f.cls, .int .i64 f.tm, .slice ao' f.ls.length cap', .int .i64 f.c]) (by simp [results, Tryz.results52, go_sem, d0, d1, d2, d3, d4, d5, d6]) rfl ⟨_, rfl, ?_, ?_⟩
 · refine (HS.out.same ?_).mono (by omega)
   (repeat (first | (with_reducible exact SameOn.refl _ _) | (with_reducible exact SameOn.refl _ _) | ((with_reducible refine SameOn.set ?_ ?_ _); rotate_left; focus (first | (simp; done) | (simp; omega))) | (with_reducible apply SameOn.drewN)))
 · (repeat (first | (with_reducible exact b2) | (with_reducible apply bl_drewN) | (with_reducible apply bl_alloc) | ((with_reducible refine bl_set ?_ _ ?_); rotate_left; focus (first | exact Nat.le_refl _ | (simp; done) | (simp; omega)))))
theorem newEnt {e : TypeId} {B : Nat} {w : World} {f : Ent} {h : Value} (hi : EntOk f) (hn : NewL tSI e B w h f.ps) : New (tEnt e) B w (eCells f h) f := by
 obtain ⟨F, h1, h2, h3⟩ := hn; exact ⟨F, tEnt_own_mk hi h1, h2, h3⟩
theorem newChg {e : TypeId} {B : Nat} {w : World} {f : Chg} {h : Value} (hi : ChgOk f) (hn : NewL tSI e B w h f.ls) : New (tChg e) B w (cCells f h) f := by
 obtain ⟨F, h1, h2, h3⟩ := hn; exact ⟨F, tChg_own_mk hi h1, h2, h3⟩
end Go.Proofs.YtifcelebfagjbaaGreatDoor
namespace Go.Tw.Po
open Go.RowKit Go.Tw Go.Sort Go.Tw.Ord
theorem chg_open {e : TypeId} {S : Nat → Prop} {w : World} {v : Value} {l : List Chg} (h : SlIs (tChg e) S w v l) :
  ∃ ao cap b off, v = .slice ao l.length cap ∧ l.length ≤ cap ∧ cap ≤ maxLen ∧ ∀ w', SameOn S w w' → ∀ k (_ : k < l.length), ao = some ⟨b, off, none⟩ ∧ S b ∧ b < w.heap.size ∧ ChgOk l[k] ∧ ∃ hv, SlIs tSI S w' hv l[k].ls ∧
   w'.cell? ⟨b, off + k * 7, none⟩ = some (.string l[k].key) ∧ w'.cell? ⟨b, off + k * 7 + 1, none⟩ = some (.string l[k].veh) ∧ w'.cell? ⟨b, off + k * 7 + 2, none⟩ = some (.string l[k].sys) ∧ w'.cell? ⟨b, off + k * 7 + 3, none⟩ = some (.int .i64 l[k].cls) ∧ w'.cell? ⟨b, off + k * 7 + 4, none⟩ = some (.int .i64 l[k].tm) ∧ w'.cell? ⟨b, off + k * 7 + 5, none⟩ = some hv ∧ w'.cell? ⟨b, off + k * 7 + 6, none⟩ = some (.int .i64 l[k].c) := by
 obtain ⟨ao, cap, b, off, hv, h1, h2, h3⟩ := h.openS; refine ⟨ao, cap, b, off, hv, h1, h2, fun w' hw k hk => ?_⟩; obtain ⟨g1, g2, g2', cs, g3, g4⟩ := h3 w' hw k hk; obtain ⟨hv, rfl, g5, g6⟩ := tChg_is g4; have g3' : ∀ j, j < 7 → w'.cell? ⟨b, off + k * 7 + j, none⟩ = (cCells l[k] hv)[j]? := g3; exact ⟨g1, g2, g2', g5, hv, g6, g3' 0 (by decide), g3' 1 (by decide), g3' 2 (by decide), g3' 3 (by decide), g3' 4 (by decide), g3' 5 (by decide), g3' 6 (by decide)⟩
theorem ent_open {e : TypeId} {S : Nat → Prop} {w : World} {v : Value} {l : List Ent} (h : SlIs (tEnt e) S w v l) :
  ∃ ao cap b off, v = .slice ao l.length cap ∧ l.length ≤ cap ∧ cap ≤ maxLen ∧ ∀ w', SameOn S w w' → ∀ k (_ : k < l.length), ao = some ⟨b, off, none⟩ ∧ S b ∧ b < w.heap.size ∧ EntOk l[k] ∧ ∃ hv, SlIs tSI S w' hv l[k].ps ∧
   w'.cell? ⟨b, off + k * 3, none⟩ = some (.string l[k].key) ∧ w'.cell? ⟨b, off + k * 3 + 1, none⟩ = some (.int .i64 l[k].tm) ∧ w'.cell? ⟨b, off + k * 3 + 2, none⟩ = some hv := by
 obtain ⟨ao, cap, b, off, hv, h1, h2, h3⟩ := h.openS; refine ⟨ao, cap, b, off, hv, h1, h2, fun w' hw k hk => ?_⟩; obtain ⟨g1, g2, g2', cs, g3, g4⟩ := h3 w' hw k hk; obtain ⟨hv, rfl, g5, g6⟩ := tEnt_is g4; have g3' : ∀ j, j < 3 → w'.cell? ⟨b, off + k * 3 + j, none⟩ = (eCells l[k] hv)[j]? := g3; exact ⟨g1, g2, g2', g5, hv, g6, g3' 0 (by decide), g3' 1 (by decide), g3' 2 (by decide)⟩
def fndI (l : List Chg) (s : ByteArray) : Int := match l.findIdx? (fun x => decide (x.key = s)) with
 | some i => (i : Int)
 | none => -1
theorem fnd_some {l : List Chg} {s : ByteArray} {k : Nat} (hk : k < l.length) (h : l[k].key = s) (hb : ∀ j (hj : j < l.length), j < k → l[j].key ≠ s) : fndI l s = k := by
 have : l.findIdx? (fun x => decide (x.key = s)) = some k := by
  rw [List.findIdx?_eq_some_iff_getElem]; exact ⟨hk, by simpa using h, fun j hj => by simpa using hb j (by omega) hj⟩
 unfold fndI; rw [this]
theorem fnd_none {l : List Chg} {s : ByteArray} (h : ∀ j (hj : j < l.length), l[j].key ≠ s) : fndI l s = -1 := by
 have : l.findIdx? (fun x => decide (x.key = s)) = none := by
  rw [List.findIdx?_eq_none_iff]; intro x hx; obtain ⟨j, hj, rfl⟩ := List.getElem_of_mem hx
  simpa using h j hj
 unfold fndI; rw [this]
end Go.Tw.Po
namespace Go.Proofs.YtifcelebfagjbaaGreatDoor
open Go.RowKit Go.Tw Go.Tw.Ord Go.Tw.Po Go.Sort
theorem find1_any (x : Chg) (v : Value) (id : ByteArray) (b : Nat) (w : World) (hb : b < w.heap.size) (hc : w.cell? ⟨b, 0, none⟩ = some (.string id)) :
  Calls Tryz.prog 84 #[.agg #[.string x.key, .string x.veh, .string x.sys, .int .i64 x.cls, .int .i64 x.tm, v, .int .i64 x.c], .pointer (some ⟨b, 0, none⟩)] w
   fun e w' => e = .returned (.bool (decide (x.key = id))) ∧ Below w.heap.size w w' := by
 go_enter Tryz.func84, Tryz.ntmps84
 go_wp2; go_ret; refine ⟨ret_bool ?_, bl_alloc (Below.refl _ _) _⟩; rw [eq_str]
set_option maxHeartbeats 1000000 in
theorem index37_any (l : List Chg) (v : Value) (id : ByteArray) (b : Nat) (w : World) (h : SlIs (tChg 140) (· < w.heap.size) w v l) (hb : b < w.heap.size) (hc : w.cell? ⟨b, 0, none⟩ = some (.string id)) :
  Calls Tryz.prog 83 #[v, .func (.func 84) #[] #[.pointer (some ⟨b, 0, none⟩)]] w
   fun e w' => e = .returned (.int .i64 (fndI l id)) ∧ Below w.heap.size w w' := by
 obtain ⟨ao, cap, bi, off, rfl, hl, hm, ho⟩ := chg_open h; unfold maxLen at hm; have HO := Lib.hid ho; clear h ho
 go_enter Tryz.func83, Tryz.ntmps83
 go_wp2
 go_loopg [8] l.length (fun g i wr => ∃ k : Nat, k + g = l.length ∧ i = .int .i64 k ∧ Hid (∀ j (hj : j < l.length), j < k → l[j].key ≠ id) ∧ Below w.heap.size w wr)
 case atStart => exact ⟨0, by omega, rfl, Lib.hid (fun j _ h => by omega), Below.refl _ _⟩
 case round =>
  obtain ⟨k, hk, rfl, HT, hb1⟩ := hrel; have HB := Lib.hid hb1
  by_cases hlt : k < l.length
  · obtain ⟨rfl, -, hbi, -, hv, hsl, c0, c1, c2, c3, c4, c5, c6⟩ := HO.out wr (.of_below hb1) k hlt
    obtain ⟨hva, hvc, _, _, rfl, -⟩ := hsl; have hs1 := hb1.size; have hc2 : wr.cell? ⟨b, 0, none⟩ = some (.string id) := (hb1.cell (p := ⟨b, 0, none⟩) hb).trans hc; have hb2 : b < wr.heap.size := by omega
    have k0 : (0 : Int) ≤ (k : Int) := by omega
    have k1 : (k : Int) < (l.length : Int) := by omega
    have HG1 := Lib.hid (show ∀ j (hj : j < l.length), j = k → l[j] = l[k] by rintro j hj rfl; rfl); generalize l[k] = y at *; obtain ⟨q, hq⟩ : ∃ q, decide (y.key = id) = q := ⟨_, rfl⟩; have HQ := Lib.hid hq; have HI := Lib.hid (find1_any y (.slice hva y.ls.length hvc) id b wr hb2 hc2); rw [hq] at HI; clear hb1 hq hc2 hb2
    cases q with
    | true =>
     go_wp2_with (go_at_call 84; refine HI.out.mono ?_; rintro e w2 ⟨rfl, hbb⟩)
     go_ret; exact ⟨ret_int (fnd_some hlt (by rw [HG1.out k hlt rfl]; simpa using HQ.out) HT.out), bl_trans HB.out hbb⟩
    | false =>
     go_wp2_with (go_at_call 84; refine HI.out.mono ?_; rintro e w2 ⟨rfl, hbb⟩)
     go_roundg (l.length - (k + 1))
     case measure => omega
     case rel => exact ⟨k + 1, by omega, by go_num, Lib.hid (fun j hj h => by
      by_cases e : j = k
      · rw [HG1.out j hj e]; simpa using HQ.out
      · exact HT.out j hj (by omega)), bl_trans HB.out (by assumption)⟩
  · go_wp2
    go_ret; exact ⟨ret_int (fnd_none fun j hj => HT.out j hj (by omega)), HB.out⟩
set_option maxHeartbeats 1000000 in
theorem find_any (l : List Chg) (vl v : Value) (id : ByteArray) (w : World) (h : SlIs (tChg 140) (· < w.heap.size) w v l) :
  Calls Tryz.prog 47 #[.agg #[vl, v], .string id] w fun e w' => e = .returned (.int .i64 (fndI l id)) ∧ Below w.heap.size w w' := by
 have b1 := bl_alloc (bl_alloc (Below.refl w.heap.size w) (.cells #[vl, v] 70)) (.cells #[.string id] 9); have HH := Lib.hid (h.step b1); have HB1 := Lib.hid b1; obtain ⟨ao, cap, _, _, rfl, -⟩ := h; clear b1
 go_enter Tryz.func47, Tryz.ntmps47
 go_wp2_with (fail)
 refine (index37_any l _ id (w.heap.size + 1) _ HH.out (by simp) (by simp)).mono ?_; rintro e w2 ⟨rfl, hb⟩; go_wp2; go_ret; exact ⟨rfl, bl_trans HB1.out hb⟩
end Go.Proofs.YtifcelebfagjbaaGreatDoor
namespace Go.Tw.Po
open Go.RowKit Go.Tw Go.Sort Go.Tw.Ord
def zeroC : Chg := ⟨ByteArray.empty, ByteArray.empty, ByteArray.empty, 0, 0, [], 0⟩
def fndC (l : List Chg) (s : ByteArray) : Option Chg := l.find? fun x => decide (x.key = s)
def postedC (l : List Chg) (s : ByteArray) : Int := ((fndC l s).getD zeroC).c
theorem fndC_some {l : List Chg} {s : ByteArray} {k : Nat} (hk : k < l.length) (h : l[k].key = s) (hb : ∀ j (hj : j < l.length), j < k → l[j].key ≠ s) : fndC l s = some l[k] := by
 unfold fndC; rw [List.find?_eq_some_iff_getElem]; exact ⟨by simpa using h, k, hk, rfl, fun j hj => by simpa using hb j (by omega) hj⟩
theorem fndC_none {l : List Chg} {s : ByteArray} (h : ∀ j (hj : j < l.length), l[j].key ≠ s) : fndC l s = none := by
 unfold fndC; rw [List.find?_eq_none]; intro x hx; obtain ⟨j, hj, rfl⟩ := List.getElem_of_mem hx
 simpa using h j hj
theorem fnd_two (l : List Chg) (s : ByteArray) : (fndI l s = -1 ∧ fndC l s = none ∧ ∀ j (hj : j < l.length), l[j].key ≠ s) ∨ ∃ (k : Nat) (hk : k < l.length), fndI l s = k ∧ fndC l s = some l[k] ∧ l[k].key = s ∧ ∀ j (hj : j < l.length), j < k → l[j].key ≠ s := by
 cases h : l.findIdx? (fun x => decide (x.key = s)) with
 | none =>
  rw [List.findIdx?_eq_none_iff] at h; have h' : ∀ j (hj : j < l.length), l[j].key ≠ s := fun j hj => by simpa using h _ (List.getElem_mem hj)
  exact .inl ⟨fnd_none h', fndC_none h', h'⟩
 | some k =>
  obtain ⟨hk, h1, h2⟩ := List.findIdx?_eq_some_iff_getElem.1 h; have h3 : l[k].key = s := by simpa using h1
  have h4 : ∀ j (hj : j < l.length), j < k → l[j].key ≠ s := fun j hj hjk => by simpa using h2 j hjk
  exact .inr ⟨k, hk, fnd_some hk h3 h4, fndC_some hk h3 h4, h3, h4⟩
end Go.Tw.Po
namespace Go.Proofs.YtifcelebfagjbaaGreatDoor
open Go.RowKit Go.Tw Go.Tw.Ord Go.Tw.Po Go.Sort
set_option maxHeartbeats 1000000 in
theorem posted_any (l : List Chg) (al : Option Addr) (nl cl : Nat) (v : Value) (id : ByteArray) (w : World) (h : SlIs (tChg 140) (· < w.heap.size) w v l) :
  Calls Tryz.prog 19 #[.agg #[.slice al nl cl, v], .string id] w fun e w' => e = .returned (.int .i64 (postedC l id)) ∧ Below w.heap.size w w' := by
 have b1 := bl_alloc (Below.refl w.heap.size w) (.cells #[.slice al nl cl, v] 70); have HF := Lib.hid (find_any l (.slice al nl cl) v id _ (h.step b1)); have HB1 := Lib.hid b1; obtain ⟨ao, cap, b, off, rfl, h1, h2, ho⟩ := chg_open h; unfold maxLen at h2; have HO := Lib.hid ho; clear b1 ho h
 rcases fnd_two l id with ⟨f1, f2, -⟩ | ⟨k, hk, f1, f2, -, -⟩
 · rw [f1] at HF
   have HE := Lib.hid (show postedC l id = 0 by unfold postedC; rw [f2]; rfl); clear f1 f2
   go_enter Tryz.func19, Tryz.ntmps19
   go_wp2_with (fail)
   refine HF.out.mono ?_; rintro e w2 ⟨rfl, hb⟩; have HB2 := Lib.hid (bl_trans HB1.out hb); clear hb HB1 HF
   go_wp2_with (fail)
   go_ret; exact ⟨ret_int HE.out, HB2.out⟩
 · rw [f1] at HF
   have HE := Lib.hid (show postedC l id = l[k].c by unfold postedC; rw [f2]; rfl); have k0 : (0 : Int) ≤ (k : Int) := by omega
   have k1 : (k : Int) < (l.length : Int) := by omega
   clear f1 f2
   go_enter Tryz.func19, Tryz.ntmps19
   go_wp2_with (fail)
   refine HF.out.mono ?_; rintro e w2 ⟨rfl, hb⟩; have n1 := (hb.block w.heap.size (by simp)).trans (heap_alloc_new _ _); obtain ⟨c0, c1, -⟩ := blk2 n1; have HB2 := Lib.hid (bl_trans HB1.out hb); clear n1 hb HB1 HF; obtain ⟨rfl, -, hbi, -, hv, -, d0, d1, d2, d3, d4, d5, d6⟩ := HO.out w2 (.of_below HB2.out) k hk; clear HO; go_wp2; go_ret; exact ⟨ret_int HE.out, HB2.out⟩
end Go.Proofs.YtifcelebfagjbaaGreatDoor
namespace Go.Proofs.YtifcelebfagjbaaGreatDoor
open Go.RowKit Go.Tw Go.Tw.Ord Go.Tw.Po Go.Sort
def FW (w : World) (a b : Value) (wr : World) : Prop := wr.heap[w.heap.size]? = some (.cells #[a, b] 70 (0, 0)) ∧ wr.heap[w.heap.size + 1]? = some (.cells #[.string ByteArray.empty, .string ByteArray.empty, .string ByteArray.empty, .int .i64 0, .int .i64 0, .slice none 0 0, .int .i64 0] 49 (0, 0)) ∧ Below w.heap.size w wr
theorem FW.start (w : World) (a b : Value) : FW w a b ((w.alloc (.cells #[a, b] 70)).alloc (.cells #[.string ByteArray.empty, .string ByteArray.empty, .string ByteArray.empty, .int .i64 0, .int .i64 0, .slice none 0 0, .int .i64 0] 49)) := ⟨heap_alloc2_old w _ _, heap_alloc2_new w _ _, bl_alloc (bl_alloc (Below.refl _ _) _) _⟩
set_option maxRecDepth 100000 in
set_option maxHeartbeats 1000000 in
theorem findR_any (l : List Chg) (al : Option Addr) (nl cl : Nat) (v : Value) (id : ByteArray) (w : World) (h : SlIs (tChg 140) (· < w.heap.size) w v l) :
  Calls Tryz.prog 48 #[.agg #[.slice al nl cl, v], .string id] w fun e w' => (∃ vx, SlIs tSI (· < w.heap.size) w vx ((fndC l id).getD zeroC).ls ∧ e = .returned (.tuple #[.agg #[.string ((fndC l id).getD zeroC).key, .string ((fndC l id).getD zeroC).veh, .string ((fndC l id).getD zeroC).sys, .int .i64 ((fndC l id).getD zeroC).cls, .int .i64 ((fndC l id).getD zeroC).tm, vx, .int .i64 ((fndC l id).getD zeroC).c], .bool (fndC l id).isSome])) ∧ Below w.heap.size w w' := by
 have HS := Lib.hid (FW.start w (.slice al nl cl) v); have HH := Lib.hid h; obtain ⟨ao, cap, b, off, rfl, h1, h2, ho⟩ := chg_open h; unfold maxLen at h2; have HO := Lib.hid ho; clear ho h
 go_enter Tryz.func48, Tryz.ntmps48
 go_wp2
 go_loopg [6] l.length (fun g i wr => ∃ k : Nat, k + g = l.length ∧ i = .int .i64 k ∧ Hid (∀ j (hj : j < l.length), j < k → l[j].key ≠ id) ∧ Hid (FW w (.slice al nl cl) (.slice ao l.length cap) wr))
 case atStart => exact ⟨0, by omega, rfl, Lib.hid (fun j _ h => by omega), HS⟩
 case round =>
  obtain ⟨k, hk, rfl, HT, HW1⟩ := hrel; clear HS; obtain ⟨c0, c1, -⟩ := blk2 HW1.out.1; obtain ⟨z0, z1, z2, z3, z4, z5, z6, zf⟩ := blk7 HW1.out.2.1; have l1 : w.heap.size + 1 < wr.heap.size := lt_of_heap HW1.out.2.1
  by_cases hlt : k < l.length
  · obtain ⟨rfl, -, hbi, -, hv, hsl, d0, d1, d2, d3, d4, d5, d6⟩ := HO.out wr (.of_below HW1.out.2.2) k hlt
    obtain ⟨-, -, -, -, hv', hsl', -, -, -, -, -, e5, -⟩ := HO.out w (SameOn.refl _ _) k hlt; have HSL := Lib.hid hsl'
    have hvv : hv' = hv := by
     have := ((HW1.out.2.2).cell (p := ⟨b, off + k * 7 + 5, none⟩) hbi).symm.trans d5; rw [e5] at this; injection this
    rw [hvv] at HSL; obtain ⟨hva, hvc, _, _, rfl, -⟩ := hsl; have k0 : (0 : Int) ≤ (k : Int) := by omega
    have k1 : (k : Int) < (l.length : Int) := by omega
    have HFS := Lib.hid (fun (hq : l[k].key = id) => fndC_some hlt hq HT.out); have HG1 := Lib.hid (show ∀ j (hj : j < l.length), j = k → l[j] = l[k] by rintro j hj rfl; rfl); generalize l[k] = y at *; clear e5 hvv hsl'; obtain ⟨q, hq⟩ : ∃ q, (y.key.toList == id.toList) = q := ⟨_, rfl⟩; have HQ := Lib.hid (show decide (y.key = id) = q by rw [← hq, eq_str]); have l0 : w.heap.size < wr.heap.size := by omega
    have lb : b < w.heap.size + 1 := by omega
    cases q with
    | true =>
     have HE := Lib.hid (HFS.out (by simpa using HQ.out)); go_wp2; rw [HE.out]; refine bodyPost_ret (v := .tuple #[.agg #[.string y.key, .string y.veh, .string y.sys, .int .i64 y.cls, .int .i64 y.tm, .slice hva y.ls.length hvc, .int .i64 y.c], .bool true]) (by simp [results, Tryz.results48, go_sem, z0, z1, z2, z3, z4, z5, z6]) rfl ⟨⟨_, HSL.out, rfl⟩, ?_⟩; have hbw : Below w.heap.size w wr := HW1.out.2.2
     (repeat (first | (with_reducible exact hbw) | (with_reducible apply bl_drewN) | (with_reducible apply bl_alloc) | ((with_reducible refine bl_set ?_ _ ?_); rotate_left; focus (first | exact Nat.le_refl _ | (simp; done) | (simp; omega)))))
    | false =>
     go_wp2
     go_roundg (l.length - (k + 1))
     case measure => omega
     case rel => exact ⟨k + 1, by omega, by go_num, Lib.hid (fun j hj h => by
      by_cases e : j = k
      · rw [HG1.out j hj e]; simpa using HQ.out
      · exact HT.out j hj (by omega)), HW1⟩
  · have HE := Lib.hid (fndC_none (s := id) fun j hj => HT.out j hj (by omega))
    go_wp2; rw [HE.out]; refine bodyPost_ret (v := .tuple #[.agg #[.string ByteArray.empty, .string ByteArray.empty, .string ByteArray.empty, .int .i64 0, .int .i64 0, .slice none 0 0, .int .i64 0], .bool false]) (by simp [results, Tryz.results48, go_sem, z0, z1, z2, z3, z4, z5, z6]; rfl) rfl ⟨⟨.slice none 0 0, SlIs.nil, rfl⟩, ?_⟩; have hbw : Below w.heap.size w wr := HW1.out.2.2
    (repeat (first | (with_reducible exact hbw) | (with_reducible apply bl_drewN) | (with_reducible apply bl_alloc) | ((with_reducible refine bl_set ?_ _ ?_); rotate_left; focus (first | exact Nat.le_refl _ | (simp; done) | (simp; omega)))))
set_option maxHeartbeats 1000000 in
theorem postedR_any (l : List Chg) (al : Option Addr) (nl cl : Nat) (v : Value) (id : ByteArray) (w : World) (h : SlIs (tChg 140) (· < w.heap.size) w v l) :
  Calls Tryz.prog 20 #[.agg #[.slice al nl cl, v], .string id] w fun e w' => e = .returned (.int .i64 (postedC l id)) ∧ Below w.heap.size w w' := by
 have b1 := bl_alloc (Below.refl w.heap.size w) (.cells #[.slice al nl cl, v] 70); have HF := Lib.hid (findR_any l al nl cl v id _ (h.step b1)); have HB1 := Lib.hid b1; have HE := Lib.hid (show postedC l id = ((fndC l id).getD zeroC).c from rfl); obtain ⟨ao, cap, b, off, rfl, h1, h2, -⟩ := chg_open h; clear b1 h; generalize (fndC l id).isSome = q at *; generalize (fndC l id).getD zeroC = x at *
 go_enter Tryz.func20, Tryz.ntmps20
 go_wp2_with (fail)
 refine HF.out.mono ?_; rintro e w2 ⟨⟨vx, hsl, rfl⟩, hb⟩; obtain ⟨va, vc, _, _, rfl, -⟩ := hsl; have HB2 := Lib.hid (bl_trans HB1.out hb); clear hb HB1 HF; go_wp2; go_ret; exact ⟨ret_int HE.out, bl_alloc HB2.out _⟩
end Go.Proofs.YtifcelebfagjbaaGreatDoor
