/-
  Layers 3, 31 (money, price): Fits, sum, Check; of the reference's.
-/
import Derived.Test.YtifcelebfagjbaaGreatDoorMgB
import Derived.Test.YtifcelebfagjbaaGreatDoorProg
import Derived.Test.YtifcelebfagjbaaGreatDoorMgD
import Derived.Deep.RegionWith
import Derived.Laws.RangeAny
import Derived.Laws.RangeString
import Derived.LoopTactic
import Derived.Lib.QuietBelow
import Derived.Deep.Cut
namespace Go.Tw.Po
open Go.RowKit Go.Tw Go.Sort Go.Tw.Ord
theorem emp_yes {s : ByteArray} (h : s.size = 0) : s.toList.isEmpty = true := by
  have : s = ByteArray.empty := ByteArray.ext (Array.eq_empty_of_size_eq_zero h)
  subst this
  rw [show ByteArray.empty.toList = [] by unfold ByteArray.toList ByteArray.toList.loop; rfl]
  rfl
theorem emp_no {s : ByteArray} (h : s.size ≠ 0) : s.toList.isEmpty = false := by
  cases hs : s.toList with
  | nil =>
    have h1 : (s.toList == ByteArray.toList ByteArray.empty) = false := by
      rw [eq_str]
      simp
      rintro rfl
      exact h rfl
    rw [hs] at h1
    exact absurd h1 (by rw [show ByteArray.empty.toList = [] by unfold ByteArray.toList ByteArray.toList.loop; rfl]; simp)
  | cons _ _ => rfl
theorem fitsM_no {n : Int} (h : n < -1125899906842624 ∨ 1125899906842624 < n) : fitsM n = false := by unfold fitsM; simp; omega
theorem fitsM_yes {n : Int} (h1 : -1125899906842624 ≤ n) (h2 : n ≤ 1125899906842624) : fitsM n = true := by unfold fitsM; simp; omega
theorem fitsM_iff {n : Int} : fitsM n = true ↔ -1125899906842624 ≤ n ∧ n ≤ 1125899906842624 := by unfold fitsM; simp
theorem sumL_snoc (l : List SI) (x : SI) : sumL (l ++ [x]) = sumL l + x.n := by unfold sumL; simp
theorem sumL_take {l : List SI} {k : Nat} (h : k < l.length) : sumL (l.take (k + 1)) = sumL (l.take k) + l[k].n := by
  rw [List.take_succ_eq_append_getElem h, sumL_snoc]
def Fit (l : List SI) : Prop := ∀ x ∈ l, fitsM x.n = true
theorem fit_all {l : List SI} : (l.all fun x => fitsM x.n) = true ↔ Fit l := by unfold Fit; rw [List.all_eq_true]
theorem all_no {l : List SI} {k : Nat} (hk : k < l.length) (h : fitsM l[k].n = false) : (l.all fun x => fitsM x.n) = false := by
  rw [List.all_eq_false]
  exact ⟨_, List.getElem_mem hk, by rw [h]; decide⟩
theorem fit_sum {l : List SI} (h : Fit l) : -1125899906842624 * (l.length : Int) ≤ sumL l ∧ sumL l ≤ 1125899906842624 * (l.length : Int) := by
  induction l with
  | nil => exact ⟨by simp [sumL], by simp [sumL]⟩
  | cons x l ih =>
    obtain ⟨h1, h2⟩ := ih (fun y hy => h y (List.mem_cons_of_mem _ hy))
    have h3 := fitsM_iff.1 (h x (List.mem_cons_self))
    have e : sumL (x :: l) = x.n + sumL l := by unfold sumL; simp
    rw [e, List.length_cons]
    omega
theorem si_open {S : Nat → Prop} {w : World} {v : Value} {l : List SI} (h : SlIs tSI S w v l) :
    ∃ ao cap b off, v = .slice ao l.length cap ∧ l.length ≤ cap ∧ cap ≤ maxLen ∧ ∀ w', SameOn S w w' → ∀ k (_ : k < l.length), ao = some ⟨b, off, none⟩ ∧ S b ∧ b < w.heap.size ∧ SIOk l[k] ∧
      w'.cell? ⟨b, off + k * 2, none⟩ = some (.string l[k].s) ∧ w'.cell? ⟨b, off + k * 2 + 1, none⟩ = some (.int .i64 l[k].n) := by
  obtain ⟨ao, cap, b, off, hv, h1, h2, h3⟩ := h.openS
  refine ⟨ao, cap, b, off, hv, h1, h2, fun w' hw k hk => ?_⟩
  obtain ⟨g1, g2, g2', cs, g3, g4⟩ := h3 w' hw k hk
  obtain ⟨rfl, g5⟩ := tSI_is g4
  have := cells2 (f := fun j => w'.cell? ⟨b, off + k * 2 + j, none⟩) g3
  exact ⟨g1, g2, g2', g5, this⟩
end Go.Tw.Po
namespace Go.Proofs.YtifcelebfagjbaaGreatDoor
open Go.RowKit Go.Tw Go.Tw.Ord Go.Tw.Po Go.Sort
theorem mFits_any (n : Int) (w : World) : Calls Tryz.prog 33 #[.int .i64 n] w fun e w' => e = .returned (.bool (fitsM n)) ∧ w = w' := by
  by_cases h1 : n < -1125899906842624
  · have HF := Lib.hid (fitsM_no (.inl h1))
    go_enter Tryz.func33, Tryz.ntmps33
    go_wp2
    go_ret
    exact ⟨ret_bool HF.out, rfl⟩
  by_cases h2 : 1125899906842624 < n
  · have HF := Lib.hid (fitsM_no (.inr h2))
    have h1' : (-1125899906842624 : Int) ≤ n := by omega
    have h2' : decide (n ≤ 1125899906842624) = false := by simp; omega
    clear h1 h2
    go_enter Tryz.func33, Tryz.ntmps33
    go_wp2
    go_ret
    exact ⟨ret_bool HF.out, rfl⟩
  · have h1' : (-1125899906842624 : Int) ≤ n := by omega
    have h2' : n ≤ 1125899906842624 := by omega
    have HF := Lib.hid (fitsM_yes h1' h2')
    clear h1 h2
    go_enter Tryz.func33, Tryz.ntmps33
    go_wp2
    go_ret
    exact ⟨ret_bool HF.out, rfl⟩
theorem mFitsR_any (n : Int) (w : World) : Calls Tryz.prog 71 #[.int .i64 n] w fun e w' => e = .returned (.bool (fitsM n)) ∧ w = w' := by
  by_cases h1 : n < -1125899906842624
  · have HF := Lib.hid (fitsM_no (.inl h1))
    go_enter Tryz.func71, Tryz.ntmps71
    go_wp2
    go_ret
    exact ⟨ret_bool HF.out, rfl⟩
  by_cases h2 : 1125899906842624 < n
  · have HF := Lib.hid (fitsM_no (.inr h2))
    have h1' : (-1125899906842624 : Int) ≤ n := by omega
    have h2' : decide (n ≤ 1125899906842624) = false := by simp; omega
    clear h1 h2
    go_enter Tryz.func71, Tryz.ntmps71
    go_wp2
    go_ret
    exact ⟨ret_bool HF.out, rfl⟩
  · have h1' : (-1125899906842624 : Int) ≤ n := by omega
    have h2' : n ≤ 1125899906842624 := by omega
    have HF := Lib.hid (fitsM_yes h1' h2')
    clear h1 h2
    go_enter Tryz.func71, Tryz.ntmps71
    go_wp2
    go_ret
    exact ⟨ret_bool HF.out, rfl⟩
theorem fits32_any (n : Int) (w : World) : Calls Tryz.prog 82 #[.int .i64 n] w fun e w' => e = .returned (.bool (fitsM n)) ∧ w = w' := by
  by_cases h1 : n < -1125899906842624
  · have HF := Lib.hid (fitsM_no (.inl h1))
    go_enter Tryz.func82, Tryz.ntmps82
    go_wp2
    go_ret
    exact ⟨ret_bool HF.out, rfl⟩
  by_cases h2 : 1125899906842624 < n
  · have HF := Lib.hid (fitsM_no (.inr h2))
    have h1' : (-1125899906842624 : Int) ≤ n := by omega
    have h2' : decide (n ≤ 1125899906842624) = false := by simp; omega
    clear h1 h2
    go_enter Tryz.func82, Tryz.ntmps82
    go_wp2
    go_ret
    exact ⟨ret_bool HF.out, rfl⟩
  · have h1' : (-1125899906842624 : Int) ≤ n := by omega
    have h2' : n ≤ 1125899906842624 := by omega
    have HF := Lib.hid (fitsM_yes h1' h2')
    clear h1 h2
    go_enter Tryz.func82, Tryz.ntmps82
    go_wp2
    go_ret
    exact ⟨ret_bool HF.out, rfl⟩
set_option maxHeartbeats 1000000 in
theorem psum_any (l : List SI) (v : Value) (w : World) (h : SlIs tSI (· < w.heap.size) w v l) (hl : l.length ≤ 1000) (hf : Fit l) :
    Calls Tryz.prog 68 #[v] w fun e w' => e = .returned (.int .i64 (sumL l)) ∧ Below w.heap.size w w' := by
  obtain ⟨ao, cap, b, off, rfl, h1, h2, ho⟩ := si_open h
  unfold maxLen at h2
  have HF := Lib.hid hf
  clear h hf
  go_enter Tryz.func68, Tryz.ntmps68
  go_wp2
  go_loopg [3, 8] l.length (fun g s i wr => ∃ (k : Nat) (n : Int), k + g = l.length ∧ i = .int .i64 k ∧ s = .int .i64 n ∧ Hid (sumL (l.take k) = n) ∧ -1125899906842624 * (k : Int) ≤ n ∧ n ≤ 1125899906842624 * (k : Int) ∧ Below w.heap.size w wr)
  case atStart => exact ⟨0, 0, by omega, rfl, rfl, Lib.hid rfl, by omega, by omega, Below.refl _ _⟩
  case round =>
    obtain ⟨k, n, hk, rfl, rfl, HN, n1, n2, hb1⟩ := hrel
    have HB1 := Lib.hid hb1
    by_cases hlt : k < l.length
    · obtain ⟨rfl, -, hbw, -, c0, c1⟩ := ho wr (.of_below hb1) k hlt
      have hx := fitsM_iff.1 (HF.out l[k] (List.getElem_mem hlt))
      have HS := Lib.hid (sumL_take hlt)
      have k0 : (0 : Int) ≤ (k : Int) := by omega
      have k1 : (k : Int) < (l.length : Int) := by omega
      generalize l[k] = r at *
      obtain ⟨xs, xn⟩ := r
      simp only at *
      have hw : IntKind.i64.wrap (n + xn) = n + xn := wrap_in (by omega) (by omega)
      clear ho hb1
      go_wp2
      go_roundg (l.length - (k + 1))
      case measure => omega
      case rel => exact ⟨k + 1, n + xn, by omega, by go_num, by go_num, Lib.hid (by rw [HS.out, HN.out]), by omega, by omega, bl_alloc HB1.out _⟩
    · have hkd : decide ((k : Int) < (l.length : Int)) = false := by simp; omega
      obtain rfl : k = l.length := by omega
      have HN2 := Lib.hid (show n = sumL l by have := HN.out; rw [List.take_length] at this; exact this.symm)
      clear ho
      go_wp2
      go_ret
      exact ⟨ret_int HN2.out.symm, HB1.out⟩
end Go.Proofs.YtifcelebfagjbaaGreatDoor
/-
  Layer 31 (price): Check; the reference's lines, Check.
-/
namespace Go.Tw.Po
open Go.RowKit Go.Tw Go.Sort Go.Tw.Ord
theorem chk_6 {x : Chg} (h : x.key.size = 0 ∨ x.veh.size = 0) : chkC x = 6 := by unfold chkC; rw [if_pos h]
def chk2 (x : Chg) : Int := if (x.ls.all fun l => fitsM l.n) = false then 13 else if x.c < 0 ∨ 1125899906842624 < x.c then 13 else if x.c ≠ sumL x.ls then 8 else 0
theorem chk_s {x : Chg} (h1 : x.key.size ≠ 0) (h2 : x.veh.size ≠ 0) : chkC x = if x.cls < 0 ∨ 9 < x.cls then 20 else if x.tm < 0 ∨ 68719476736 < x.tm then 12 else chk2 x := by
  unfold chkC chk2; rw [if_neg (by omega)]
theorem chk2_13 {x : Chg} (h : (x.ls.all fun l => fitsM l.n) = false) : chk2 x = 13 := by unfold chk2; rw [if_pos h]
theorem chk2_c {x : Chg} (h : Fit x.ls) : chk2 x = if x.c < 0 ∨ 1125899906842624 < x.c then 13 else if x.c ≠ sumL x.ls then 8 else 0 := by
  unfold chk2; rw [if_neg (by rw [fit_all.2 h]; decide)]
end Go.Tw.Po
namespace Go.Proofs.YtifcelebfagjbaaGreatDoor
open Go.RowKit Go.Tw Go.Tw.Ord Go.Tw.Po Go.Sort
/-- a charge in a box -/
def ChgW (w : World) (x : Chg) (v : Value) (wr : World) : Prop := wr.heap[w.heap.size]? = some (.cells #[.string x.key, .string x.veh, .string x.sys, .int .i64 x.cls, .int .i64 x.tm, v, .int .i64 x.c] 49 (0, 0)) ∧ Below w.heap.size w wr
theorem ChgW.start (w : World) (x : Chg) (v : Value) : ChgW w x v (w.alloc (.cells #[.string x.key, .string x.veh, .string x.sys, .int .i64 x.cls, .int .i64 x.tm, v, .int .i64 x.c] 49)) := ⟨heap_alloc_new _ _, bl_alloc (Below.refl _ _) _⟩
theorem ChgW.step {w wr w' : World} {x : Chg} {v : Value} (h : ChgW w x v wr) (hb : Below wr.heap.size wr w') : ChgW w x v w' := ⟨(hb.block _ (lt_of_heap h.1)).trans h.1, bl_trans h.2 hb⟩
set_option maxRecDepth 100000 in
set_option maxHeartbeats 2000000 in
theorem pcheck_any (x : Chg) (vx : Value) (w : World) (hx : ChgOk x) (h : SlIs tSI (· < w.heap.size) w vx x.ls) (hl : x.ls.length ≤ 1000) :
    Calls Tryz.prog 32 #[.agg #[.string x.key, .string x.veh, .string x.sys, .int .i64 x.cls, .int .i64 x.tm, vx, .int .i64 x.c]] w fun e w' => e = .returned (.int .i64 (chkC x)) ∧ Below w.heap.size w w' := by
  have H := Lib.hid h
  obtain ⟨ao, cap, b, off, rfl, h1, h2, ho⟩ := si_open h
  have HB := Lib.hid (ChgW.start w x (.slice ao x.ls.length cap))
  obtain ⟨k1, k2, k3, k4, k5, k6⟩ := hx
  unfold maxLen at h2 k1 k2 k3
  unfold i64ok at k4 k5 k6
  have HO := Lib.hid ho
  clear h ho
  by_cases e1 : x.key.size = 0
  · have HE := Lib.hid (chk_6 (x := x) (.inl e1))
    have q1 := emp_yes e1
    clear e1
    go_enter Tryz.func32, Tryz.ntmps32
    go_wp2
    go_ret
    exact ⟨ret_int HE.out, HB.out.2⟩
  have q1 := emp_no e1
  by_cases e2 : x.veh.size = 0
  · have HE := Lib.hid (chk_6 (x := x) (.inr e2))
    have q2 := emp_yes e2
    clear e1 e2
    go_enter Tryz.func32, Tryz.ntmps32
    go_wp2
    go_ret
    exact ⟨ret_int HE.out, HB.out.2⟩
  have q2 := emp_no e2
  have HS := Lib.hid (chk_s e1 e2)
  clear e1 e2
  have hcl : x.cls < 0 ∨ (0 ≤ x.cls ∧ 9 < x.cls) ∨ (0 ≤ x.cls ∧ x.cls ≤ 9) := by omega
  rcases hcl with t1 | ⟨t1, t2⟩ | ⟨t1, t2⟩
  · have HE := Lib.hid (HS.out.trans (if_pos (.inl t1)))
    go_enter Tryz.func32, Tryz.ntmps32
    go_wp2
    go_ret
    exact ⟨ret_int HE.out, HB.out.2⟩
  · have HE := Lib.hid (HS.out.trans (if_pos (.inr t2)))
    go_enter Tryz.func32, Tryz.ntmps32
    go_wp2
    go_ret
    exact ⟨ret_int HE.out, HB.out.2⟩
  have HS := Lib.hid (HS.out.trans (if_neg (by omega)))
  have htm : x.tm < 0 ∨ (0 ≤ x.tm ∧ 68719476736 < x.tm) ∨ (0 ≤ x.tm ∧ x.tm ≤ 68719476736) := by omega
  rcases htm with t3 | ⟨t3, t4⟩ | ⟨t3, t4⟩
  · have HE := Lib.hid (HS.out.trans (if_pos (.inl t3)))
    go_enter Tryz.func32, Tryz.ntmps32
    go_wp2
    go_ret
    exact ⟨ret_int HE.out, HB.out.2⟩
  · have HE := Lib.hid (HS.out.trans (if_pos (.inr t4)))
    go_enter Tryz.func32, Tryz.ntmps32
    go_wp2
    go_ret
    exact ⟨ret_int HE.out, HB.out.2⟩
  have HS := Lib.hid (HS.out.trans (if_neg (by omega)))
  go_enter Tryz.func32, Tryz.ntmps32
  go_wp2
  go_loopg [35] x.ls.length (fun g i wr => ∃ (k : Nat), k + g = x.ls.length ∧ i = .int .i64 k ∧ Hid (Fit (x.ls.take k)) ∧ ChgW w x (.slice ao x.ls.length cap) wr)
  case atStart => exact ⟨0, by omega, rfl, Lib.hid (fun y hy => by simp at hy), HB.out⟩
  case round =>
    obtain ⟨k, hk, rfl, HF, hw⟩ := hrel
    have HW := Lib.hid hw
    by_cases hlt : k < x.ls.length
    · obtain ⟨rfl, -, hbw, -, c0, c1⟩ := HO.out wr (.of_below hw.2) k hlt
      have k0 : (0 : Int) ≤ (k : Int) := by omega
      have k1 : (k : Int) < (x.ls.length : Int) := by omega
      have HX := Lib.hid (show ∀ W, Calls Tryz.prog 33 #[.int .i64 x.ls[k].n] W fun e w' => e = .returned (.bool (fitsM x.ls[k].n)) ∧ W = w' from fun W => mFits_any _ W)
      have HN := Lib.hid (show ∀ r, fitsM x.ls[k].n = r → if r = true then Fit (x.ls.take (k + 1)) else chk2 x = 13 from fun r hr => by
        cases r
        · simp only [Bool.false_eq_true, if_false]
          exact chk2_13 (all_no hlt hr)
        · rw [if_pos rfl, List.take_succ_eq_append_getElem hlt]
          intro y hy
          rcases List.mem_append.1 hy with hy | hy
          · exact HF.out y hy
          · rw [List.mem_singleton] at hy
            rw [hy]; exact hr)
      have HB1 := Lib.hid (hw.step (bl_alloc (Below.refl wr.heap.size wr) (.cells #[.string x.ls[k].s, .int .i64 x.ls[k].n] 140)))
      obtain ⟨n0, -⟩ := hw
      obtain ⟨r, hr⟩ : ∃ r, fitsM x.ls[k].n = r := ⟨_, rfl⟩
      have HM := HN.out r hr
      rw [hr] at HX
      clear hr HN
      generalize x.ls[k].n = xn at *
      generalize x.ls[k].s = xs at *
      cases r with
      | false =>
        have HE := Lib.hid (HS.out.trans (by simpa using HM))
        clear HM
        go_wp2_with (go_at_call 33; refine (HX.out _).mono ?_; rintro e w1 ⟨rfl, rfl⟩)
        go_ret
        exact ⟨ret_int HE.out, HB1.out.2⟩
      | true =>
        have HM' := Lib.hid (show Fit (x.ls.take (k + 1)) by simpa using HM)
        clear HM
        go_wp2_with (go_at_call 33; refine (HX.out _).mono ?_; rintro e w1 ⟨rfl, rfl⟩)
        go_roundg (x.ls.length - (k + 1))
        case measure => omega
        case rel => exact ⟨k + 1, by omega, by go_num, HM', HB1.out⟩
    · have hkd : decide ((k : Int) < (x.ls.length : Int)) = false := by simp; omega
      obtain rfl : k = x.ls.length := by omega
      have hf : Fit x.ls := by have := HF.out; rwa [List.take_length] at this
      have HC := Lib.hid (HS.out.trans (chk2_c hf))
      have HPS := Lib.hid (show ∀ W, Below w.heap.size w W → Calls Tryz.prog 68 #[.slice ao x.ls.length cap] W fun e w' => e = .returned (.int .i64 (sumL x.ls)) ∧ Below W.heap.size W w' from fun W hW => psum_any x.ls _ W (H.out.step hW) hl hf)
      obtain ⟨n0, -⟩ := hw
      have c5 : wr.cell? ⟨w.heap.size, 5, none⟩ = some (.slice ao x.ls.length cap) := by simp [World.cell?, n0]
      have c6 : wr.cell? ⟨w.heap.size, 6, none⟩ = some (.int .i64 x.c) := by simp [World.cell?, n0]
      clear n0
      obtain ⟨s, hs⟩ : ∃ s, sumL x.ls = s := ⟨_, rfl⟩
      rw [hs] at HPS HC
      clear hs hf
      have hcc : x.c < 0 ∨ (0 ≤ x.c ∧ 1125899906842624 < x.c) ∨ (0 ≤ x.c ∧ x.c ≤ 1125899906842624) := by omega
      rcases hcc with t5 | ⟨t5, t6⟩ | ⟨t5, t6⟩
      · have HE := Lib.hid (HC.out.trans (if_pos (.inl t5)))
        go_wp2
        go_ret
        exact ⟨ret_int HE.out, HW.out.2⟩
      · have HE := Lib.hid (HC.out.trans (if_pos (.inr t6)))
        go_wp2
        go_ret
        exact ⟨ret_int HE.out, HW.out.2⟩
      have HC := Lib.hid (HC.out.trans (if_neg (by omega)))
      have b5 := cell_regrown c5
      have b6 := cell_regrown c6
      have HP' := Lib.hid (show ∀ W, Below wr.heap.size wr W → Calls Tryz.prog 68 #[.slice ao x.ls.length cap] W fun e w' => e = .returned (.int .i64 s) ∧ Below W.heap.size W w' from fun W hW => HPS.out W (bl_trans HW.out.2 hW))
      have cA := fun d os => Calls.regrown_of (HP'.out _ (below_regrown wr d os))
      go_upto_region 15 with (fail)
      clear c5 c6
      refine wp_region_quiet_below (by kernel_rfl) (by kernel_rfl) ?_
      (repeat (quiet_step (first | (go_at_call 68; with_reducible exact cA _ _))))
      refine wpQuiet_nil ?_
      intro _ hw'
      obtain ⟨⟨dq, osq⟩, hw''⟩ := hw'
      subst hw''
      have HQ := Lib.hid (bl_trans HW.out.2 (below_regrown wr dq osq))
      clear b5 b6 cA
      by_cases t7 : x.c = s
      · have HE := Lib.hid (HC.out.trans (if_neg (by simpa using t7)))
        have t8 : (x.c != s) = false := by simpa using t7
        clear t7
        go_wp2
        go_ret
        exact ⟨ret_int HE.out, HQ.out⟩
      · have HE := Lib.hid (HC.out.trans (if_pos t7))
        have t8 : (x.c != s) = true := by simpa using t7
        clear t7
        go_wp2
        go_ret
        exact ⟨ret_int HE.out, HQ.out⟩
end Go.Proofs.YtifcelebfagjbaaGreatDoor
/-
  Layer 31: the reference's lines, Check.
-/
namespace Go.Tw.Po
open Go.RowKit Go.Tw Go.Sort Go.Tw.Ord
def okN (s : Int) : Int := if fitsM s = true then s else 0
def errN (s : Int) : Int := if fitsM s = true then 0 else 13
theorem okN_t {s : Int} (h : fitsM s = true) : okN s = s := if_pos h
theorem errN_t {s : Int} (h : fitsM s = true) : errN s = 0 := if_pos h
theorem okN_f {s : Int} (h : fitsM s = false) : okN s = 0 := if_neg (by rw [h]; decide)
theorem errN_f {s : Int} (h : fitsM s = false) : errN s = 13 := if_neg (by rw [h]; decide)
end Go.Tw.Po
namespace Go.Proofs.YtifcelebfagjbaaGreatDoor
open Go.RowKit Go.Tw Go.Tw.Ord Go.Tw.Po Go.Sort
theorem ChgW.cells {w wr : World} {x : Chg} {v : Value} (h : ChgW w x v wr) : wr.cell? ⟨w.heap.size, 0, none⟩ = some (.string x.key) ∧ wr.cell? ⟨w.heap.size, 1, none⟩ = some (.string x.veh) ∧ wr.cell? ⟨w.heap.size, 2, none⟩ = some (.string x.sys) ∧ wr.cell? ⟨w.heap.size, 3, none⟩ = some (.int .i64 x.cls) ∧ wr.cell? ⟨w.heap.size, 4, none⟩ = some (.int .i64 x.tm) ∧ wr.cell? ⟨w.heap.size, 5, none⟩ = some v ∧ wr.cell? ⟨w.heap.size, 6, none⟩ = some (.int .i64 x.c) := by
  obtain ⟨n0, -⟩ := h
  refine ⟨?_, ?_, ?_, ?_, ?_, ?_, ?_⟩ <;> simp [World.cell?, n0]
set_option maxHeartbeats 1000000 in
theorem lines_any (l : List SI) (v : Value) (w : World) (h : SlIs tSI (· < w.heap.size) w v l) (hl : l.length ≤ 1000) (hf : Fit l) :
    Calls Tryz.prog 72 #[v] w fun e w' => e = .returned (.tuple #[.int .i64 (okN (sumL l)), .int .i64 (errN (sumL l))]) ∧ w = w' := by
  obtain ⟨ao, cap, b, off, rfl, h1, h2, ho⟩ := si_open h
  unfold maxLen at h2
  have HF := Lib.hid hf
  clear h hf
  go_enter Tryz.func72, Tryz.ntmps72
  go_wp2
  go_loopg [4, 5] l.length (fun g s i wr => ∃ (k : Nat) (n : Int), k + g = l.length ∧ i = .int .i64 k ∧ s = .int .i64 n ∧ Hid (sumL (l.take k) = n) ∧ -1125899906842624 * (k : Int) ≤ n ∧ n ≤ 1125899906842624 * (k : Int) ∧ w = wr)
  case atStart => exact ⟨0, 0, by omega, rfl, rfl, Lib.hid rfl, by omega, by omega, rfl⟩
  case round =>
    obtain ⟨k, n, hk, rfl, rfl, HN, n1, n2, rfl⟩ := hrel
    by_cases hlt : k < l.length
    · obtain ⟨rfl, -, hbw, -, c0, c1⟩ := ho w (SameOn.refl _ _) k hlt
      have hfx := HF.out l[k] (List.getElem_mem hlt)
      have hx := fitsM_iff.1 hfx
      have HX := Lib.hid (show ∀ W, Calls Tryz.prog 71 #[.int .i64 l[k].n] W fun e w' => e = .returned (.bool true) ∧ W = w' from fun W => by rw [← hfx]; exact mFitsR_any _ W)
      have HS := Lib.hid (sumL_take hlt)
      have k0 : (0 : Int) ≤ (k : Int) := by omega
      have k1 : (k : Int) < (l.length : Int) := by omega
      clear hfx
      generalize l[k] = r at *
      obtain ⟨xs, xn⟩ := r
      simp only at *
      have hw : IntKind.i64.wrap (n + xn) = n + xn := wrap_in (by omega) (by omega)
      clear ho
      go_wp2_with (go_at_call 71; refine (HX.out _).mono ?_; rintro e w1 ⟨rfl, rfl⟩)
      go_roundg (l.length - (k + 1))
      case measure => omega
      case rel => exact ⟨k + 1, n + xn, by omega, by go_num, by go_num, Lib.hid (by rw [HS.out, HN.out]), by omega, by omega, rfl⟩
    · have hkd : decide ((k : Int) < (l.length : Int)) = false := by simp; omega
      obtain rfl : k = l.length := by omega
      have hn : sumL l = n := by have := HN.out; rwa [List.take_length] at this
      have HNN := Lib.hid hn
      clear ho hn HN
      obtain ⟨r, hr⟩ : ∃ r, fitsM n = r := ⟨_, rfl⟩
      have HX := Lib.hid (show ∀ W, Calls Tryz.prog 71 #[.int .i64 n] W fun e w' => e = .returned (.bool r) ∧ W = w' from fun W => by rw [← hr]; exact mFitsR_any _ W)
      have HR := Lib.hid hr
      clear hr
      cases r with
      | true =>
        have HA := Lib.hid (okN_t HR.out)
        have HE := Lib.hid (errN_t HR.out)
        go_wp2_with (go_at_call 71; refine (HX.out _).mono ?_; rintro e w1 ⟨rfl, rfl⟩)
        go_ret2
        exact ⟨by rw [HNN.out, HA.out, HE.out]; rfl, rfl⟩
      | false =>
        have HA := Lib.hid (okN_f HR.out)
        have HE := Lib.hid (errN_f HR.out)
        go_wp2_with (go_at_call 71; refine (HX.out _).mono ?_; rintro e w1 ⟨rfl, rfl⟩)
        go_ret2
        exact ⟨by rw [HNN.out, HA.out, HE.out]; rfl, rfl⟩
set_option maxRecDepth 100000 in
set_option maxHeartbeats 2000000 in
theorem pcheckR_any (x : Chg) (vx : Value) (w : World) (hx : ChgOk x) (h : SlIs tSI (· < w.heap.size) w vx x.ls) (hl : x.ls.length ≤ 1000) :
    Calls Tryz.prog 36 #[.agg #[.string x.key, .string x.veh, .string x.sys, .int .i64 x.cls, .int .i64 x.tm, vx, .int .i64 x.c]] w fun e w' => e = .returned (.int .i64 (chkC x)) ∧ Below w.heap.size w w' := by
  have H := Lib.hid h
  obtain ⟨ao, cap, b, off, rfl, h1, h2, ho⟩ := si_open h
  have HB := Lib.hid (ChgW.start w x (.slice ao x.ls.length cap))
  obtain ⟨k1, k2, k3, k4, k5, k6⟩ := hx
  unfold maxLen at h2 k1 k2 k3
  unfold i64ok at k4 k5 k6
  have HO := Lib.hid ho
  clear h ho
  by_cases e1 : x.key.size = 0
  · have HE := Lib.hid (chk_6 (x := x) (.inl e1))
    have q1 := emp_yes e1
    clear e1
    go_enter Tryz.func36, Tryz.ntmps36
    go_wp2
    go_ret
    exact ⟨ret_int HE.out, HB.out.2⟩
  have q1 := emp_no e1
  by_cases e2 : x.veh.size = 0
  · have HE := Lib.hid (chk_6 (x := x) (.inr e2))
    have q2 := emp_yes e2
    clear e1 e2
    go_enter Tryz.func36, Tryz.ntmps36
    go_wp2
    go_ret
    exact ⟨ret_int HE.out, HB.out.2⟩
  have q2 := emp_no e2
  have HS := Lib.hid (chk_s e1 e2)
  clear e1 e2
  have hcl : x.cls < 0 ∨ (0 ≤ x.cls ∧ 9 < x.cls) ∨ (0 ≤ x.cls ∧ x.cls ≤ 9) := by omega
  rcases hcl with t1 | ⟨t1, t2⟩ | ⟨t1, t2⟩
  · have HE := Lib.hid (HS.out.trans (if_pos (.inl t1)))
    go_enter Tryz.func36, Tryz.ntmps36
    go_wp2
    go_ret
    exact ⟨ret_int HE.out, HB.out.2⟩
  · have HE := Lib.hid (HS.out.trans (if_pos (.inr t2)))
    go_enter Tryz.func36, Tryz.ntmps36
    go_wp2
    go_ret
    exact ⟨ret_int HE.out, HB.out.2⟩
  have HS := Lib.hid (HS.out.trans (if_neg (by omega)))
  have htm : x.tm < 0 ∨ (0 ≤ x.tm ∧ 68719476736 < x.tm) ∨ (0 ≤ x.tm ∧ x.tm ≤ 68719476736) := by omega
  rcases htm with t3 | ⟨t3, t4⟩ | ⟨t3, t4⟩
  · have HE := Lib.hid (HS.out.trans (if_pos (.inl t3)))
    go_enter Tryz.func36, Tryz.ntmps36
    go_wp2
    go_ret
    exact ⟨ret_int HE.out, HB.out.2⟩
  · have HE := Lib.hid (HS.out.trans (if_pos (.inr t4)))
    go_enter Tryz.func36, Tryz.ntmps36
    go_wp2
    go_ret
    exact ⟨ret_int HE.out, HB.out.2⟩
  have HS := Lib.hid (HS.out.trans (if_neg (by omega)))
  go_enter Tryz.func36, Tryz.ntmps36
  go_wp2
  go_loopg [3] x.ls.length (fun g i wr => ∃ (k : Nat), k + g = x.ls.length ∧ i = .int .i64 k ∧ Hid (Fit (x.ls.take k)) ∧ ChgW w x (.slice ao x.ls.length cap) wr)
  case atStart => exact ⟨0, by omega, rfl, Lib.hid (fun y hy => by simp at hy), HB.out⟩
  case round =>
    obtain ⟨k, hk, rfl, HF, hw⟩ := hrel
    have HW := Lib.hid hw
    obtain ⟨-, -, -, -, -, c5, c6⟩ := hw.cells
    by_cases hlt : k < x.ls.length
    · obtain ⟨rfl, -, hbw, -, c0, c1⟩ := HO.out wr (.of_below hw.2) k hlt
      have k0 : (0 : Int) ≤ (k : Int) := by omega
      have k1 : (k : Int) < (x.ls.length : Int) := by omega
      have HX := Lib.hid (show ∀ W, Calls Tryz.prog 71 #[.int .i64 x.ls[k].n] W fun e w' => e = .returned (.bool (fitsM x.ls[k].n)) ∧ W = w' from fun W => mFitsR_any _ W)
      have HN := Lib.hid (show ∀ r, fitsM x.ls[k].n = r → if r = true then Fit (x.ls.take (k + 1)) else chk2 x = 13 from fun r hr => by
        cases r
        · simp only [Bool.false_eq_true, if_false]
          exact chk2_13 (all_no hlt hr)
        · rw [if_pos rfl, List.take_succ_eq_append_getElem hlt]
          intro y hy
          rcases List.mem_append.1 hy with hy | hy
          · exact HF.out y hy
          · rw [List.mem_singleton] at hy
            rw [hy]; exact hr)
      obtain ⟨r, hr⟩ : ∃ r, fitsM x.ls[k].n = r := ⟨_, rfl⟩
      have HM := HN.out r hr
      rw [hr] at HX
      clear hw hr HN
      generalize x.ls[k].n = xn at *
      generalize x.ls[k].s = xs at *
      cases r with
      | false =>
        have HE := Lib.hid (HS.out.trans (by simpa using HM))
        clear HM
        go_wp2_with (go_at_call 71; refine (HX.out _).mono ?_; rintro e w1 ⟨rfl, rfl⟩)
        go_ret
        exact ⟨ret_int HE.out, HW.out.2⟩
      | true =>
        have HM' := Lib.hid (show Fit (x.ls.take (k + 1)) by simpa using HM)
        clear HM
        go_wp2_with (go_at_call 71; refine (HX.out _).mono ?_; rintro e w1 ⟨rfl, rfl⟩)
        go_roundg (x.ls.length - (k + 1))
        case measure => omega
        case rel => exact ⟨k + 1, by omega, by go_num, HM', HW.out⟩
    · have hkd : decide ((k : Int) < (x.ls.length : Int)) = false := by simp; omega
      obtain rfl : k = x.ls.length := by omega
      have hf : Fit x.ls := by have := HF.out; rwa [List.take_length] at this
      have HC := Lib.hid (HS.out.trans (chk2_c hf))
      have HP := Lib.hid (lines_any x.ls _ wr (H.out.keep (fun j hj => Nat.lt_of_lt_of_le hj hw.2.size) (.of_below hw.2)) hl hf)
      obtain ⟨s, hs⟩ : ∃ s, sumL x.ls = s := ⟨_, rfl⟩
      rw [hs] at HP HC
      clear hs hf hw
      have hcc : x.c < 0 ∨ (0 ≤ x.c ∧ 1125899906842624 < x.c) ∨ (0 ≤ x.c ∧ x.c ≤ 1125899906842624) := by omega
      rcases hcc with t5 | ⟨t5, t6⟩ | ⟨t5, t6⟩
      · have HE := Lib.hid (HC.out.trans (if_pos (.inl t5)))
        go_wp2
        go_ret
        exact ⟨ret_int HE.out, HW.out.2⟩
      · have HE := Lib.hid (HC.out.trans (if_pos (.inr t6)))
        go_wp2
        go_ret
        exact ⟨ret_int HE.out, HW.out.2⟩
      have HC := Lib.hid (HC.out.trans (if_neg (by omega)))
      by_cases t7 : x.c = s
      · have HE := Lib.hid (HC.out.trans (if_neg (by simpa using t7)))
        have hfs : fitsM s = true := fitsM_yes (by omega) (by omega)
        rw [okN_t hfs, errN_t hfs, ← t7] at HP
        clear t7 hfs
        go_wp2_with (go_at_call 72; refine HP.out.mono ?_; rintro e w1 ⟨rfl, rfl⟩)
        go_ret
        exact ⟨ret_int HE.out, HW.out.2⟩
      · have HE := Lib.hid (HC.out.trans (if_pos t7))
        cases hfs : fitsM s with
        | true =>
          rw [okN_t hfs, errN_t hfs] at HP
          have t8 : (s != x.c) = true := by simpa using fun e => t7 e.symm
          clear t7 hfs
          go_wp2_with (go_at_call 72; refine HP.out.mono ?_; rintro e w1 ⟨rfl, rfl⟩)
          go_ret
          exact ⟨ret_int HE.out, HW.out.2⟩
        | false =>
          rw [okN_f hfs, errN_f hfs] at HP
          clear t7 hfs
          go_wp2_with (go_at_call 72; refine HP.out.mono ?_; rintro e w1 ⟨rfl, rfl⟩)
          go_ret
          exact ⟨ret_int HE.out, HW.out.2⟩
end Go.Proofs.YtifcelebfagjbaaGreatDoor
/-
  Layer 32 (ledger): field, Check; of the reference's.
-/
namespace Go.Tw.Po
open Go.RowKit Go.Tw Go.Sort Go.Tw.Ord
def fieldP (s : ByteArray) : Prop := s.size ≠ 0 ∧ ∀ i (h : i < s.size), 33 ≤ s[i].toNat ∧ s[i].toNat ≤ 126
open Classical in
noncomputable def fieldC (s : ByteArray) : Bool := decide (fieldP s)
theorem field_yes {s : ByteArray} (h : fieldP s) : fieldC s = true := by simp [fieldC, h]
theorem field_no {s : ByteArray} (h : ¬ fieldP s) : fieldC s = false := by simp [fieldC, h]
noncomputable def postE (p : SI) : Int := if fieldC p.s = false then 5 else if p.n = 0 then 14 else if fitsM p.n = false then 13 else 0
noncomputable def postsC (ps : List SI) : Int := if orL (ps.map postE) ≠ 0 then orL (ps.map postE) else if sumL ps ≠ 0 then 26 else 0
/-- ledger.Check -/
noncomputable def entC (e : Ent) : Int :=
  if fieldC e.key = false then 5 else if e.tm < 0 ∨ 68719476736 < e.tm then 12 else if e.ps.length = 0 then 1 else if 1024 < e.ps.length then 3 else postsC e.ps
theorem postE_5 {p : SI} (h : fieldC p.s = false) : postE p = 5 := by unfold postE; rw [if_pos h]
theorem postE_14 {p : SI} (h : fieldC p.s = true) (h2 : p.n = 0) : postE p = 14 := by unfold postE; rw [if_neg (by rw [h]; decide), if_pos h2]
theorem postE_13 {p : SI} (h : fieldC p.s = true) (h2 : p.n ≠ 0) (h3 : fitsM p.n = false) : postE p = 13 := by unfold postE; rw [if_neg (by rw [h]; decide), if_neg h2, if_pos h3]
theorem postE_0 {p : SI} (h : fieldC p.s = true) (h2 : p.n ≠ 0) (h3 : fitsM p.n = true) : postE p = 0 := by unfold postE; rw [if_neg (by rw [h]; decide), if_neg h2, if_neg (by rw [h3]; decide)]
theorem orL_drop {l : List SI} {k : Nat} (h : k < l.length) : orL ((l.drop k).map postE) = if postE l[k] = 0 then orL ((l.drop (k + 1)).map postE) else postE l[k] := by
  rw [List.drop_eq_getElem_cons h, List.map_cons, orL]
theorem posts_err {l : List SI} {x : Int} (h : orL (l.map postE) = x) (hx : x ≠ 0) : postsC l = x := by
  unfold postsC; rw [h, if_pos hx]
theorem posts_sum {l : List SI} (h : orL (l.map postE) = 0) : postsC l = if sumL l ≠ 0 then 26 else 0 := by
  unfold postsC; rw [h, if_neg (by simp)]
theorem ent_5 {e : Ent} (h : fieldC e.key = false) : entC e = 5 := by unfold entC; rw [if_pos h]
theorem ent_s {e : Ent} (h : fieldC e.key = true) : entC e = if e.tm < 0 ∨ 68719476736 < e.tm then 12 else if e.ps.length = 0 then 1 else if 1024 < e.ps.length then 3 else postsC e.ps := by
  unfold entC; rw [if_neg (by rw [h]; decide)]
end Go.Tw.Po
namespace Go.Proofs.YtifcelebfagjbaaGreatDoor
open Go.RowKit Go.Tw Go.Tw.Ord Go.Tw.Po Go.Sort
set_option maxHeartbeats 1000000 in
theorem field_any (s : ByteArray) (w : World) (hs : s.size ≤ maxLen) : Calls Tryz.prog 80 #[.string s] w fun e w' => e = .returned (.bool (fieldC s)) ∧ w = w' := by
  unfold maxLen at hs
  go_enter Tryz.func80, Tryz.ntmps80
  go_wp2
  go_loopg [6] s.size (fun g i wr => ∃ k : Nat, k + g = s.size ∧ i = .int .i64 k ∧ Hid (∀ i (h : i < k) (h2 : i < s.size), 33 ≤ s[i].toNat ∧ s[i].toNat ≤ 126) ∧ w = wr)
  case atStart => exact ⟨0, by omega, rfl, Lib.hid (fun i h => absurd h (Nat.not_lt_zero _)), rfl⟩
  case round =>
    obtain ⟨k, hk, rfl, HA, rfl⟩ := hrel
    by_cases hlt : k < s.size
    case neg =>
      by_cases h0 : s.size = 0
      · have he := emp_yes h0
        have HF := Lib.hid (show fieldC s = false from field_no (fun h => h.1 h0))
        go_wp2
        go_ret
        exact ⟨ret_bool HF.out, rfl⟩
      · have he := emp_no h0
        have HF := Lib.hid (show fieldC s = true from field_yes ⟨h0, fun i h => HA.out i (by omega) h⟩)
        go_wp2
        go_ret
        exact ⟨ret_bool HF.out, rfl⟩
    have k0 : (0 : Int) ≤ (k : Int) := by omega
    have k1 : (k : Int) < (s.size : Int) := by omega
    have hz : s[k].toNat < 33 ∨ (33 ≤ s[k].toNat ∧ s[k].toNat ≤ 126) ∨ 126 < s[k].toNat := by omega
    rcases hz with q1 | ⟨q1, q2⟩ | q1
    · have g1 : (s[k].toNat : Int) < 33 := by omega
      have HF := Lib.hid (show fieldC s = false from field_no (fun h => by have := h.2 k hlt; omega))
      clear q1
      go_wp2
      go_ret
      exact ⟨ret_bool HF.out, rfl⟩
    · have g1 : decide ((s[k].toNat : Int) < 33) = false := by simp; omega
      have g2 : decide ((126 : Int) < (s[k].toNat : Int)) = false := by simp; omega
      have HQ := Lib.hid (show 33 ≤ s[k].toNat ∧ s[k].toNat ≤ 126 from ⟨q1, q2⟩)
      clear q1 q2
      go_wp2
      go_roundg (s.size - (k + 1))
      case measure => omega
      case rel =>
        refine ⟨k + 1, by omega, by go_num, Lib.hid (fun i h h2 => ?_), rfl⟩
        by_cases e : i = k
        · subst e; exact HQ.out
        · exact HA.out i (by omega) h2
    · have g1 : decide ((s[k].toNat : Int) < 33) = false := by simp; omega
      have g2 : (126 : Int) < (s[k].toNat : Int) := by omega
      have HF := Lib.hid (show fieldC s = false from field_no (fun h => by have := h.2 k hlt; omega))
      clear q1
      go_wp2
      go_ret
      exact ⟨ret_bool HF.out, rfl⟩
set_option maxHeartbeats 1000000 in
theorem fieldR_any (s : ByteArray) (w : World) (hs : s.size ≤ maxLen) : Calls Tryz.prog 81 #[.string s] w fun e w' => e = .returned (.bool (fieldC s)) ∧ w = w' := by
  unfold maxLen at hs
  go_enter Tryz.func81, Tryz.ntmps81
  go_wp2
  go_loopg [3] s.size (fun g i wr => ∃ k : Nat, k + g = s.size ∧ i = .int .i64 k ∧ Hid (∀ i (h : i < k) (h2 : i < s.size), 33 ≤ s[i].toNat ∧ s[i].toNat ≤ 126) ∧ w = wr)
  case atStart => exact ⟨0, by omega, rfl, Lib.hid (fun i h => absurd h (Nat.not_lt_zero _)), rfl⟩
  case round =>
    obtain ⟨k, hk, rfl, HA, rfl⟩ := hrel
    by_cases hlt : k < s.size
    case neg =>
      by_cases h0 : s.size = 0
      · have he := emp_yes h0
        have HF := Lib.hid (show fieldC s = false from field_no (fun h => h.1 h0))
        go_wp2
        go_ret
        exact ⟨ret_bool HF.out, rfl⟩
      · have he := emp_no h0
        have HF := Lib.hid (show fieldC s = true from field_yes ⟨h0, fun i h => HA.out i (by omega) h⟩)
        go_wp2
        go_ret
        exact ⟨ret_bool HF.out, rfl⟩
    have k0 : (0 : Int) ≤ (k : Int) := by omega
    have k1 : (k : Int) < (s.size : Int) := by omega
    have hz : s[k].toNat < 33 ∨ (33 ≤ s[k].toNat ∧ s[k].toNat ≤ 126) ∨ 126 < s[k].toNat := by omega
    rcases hz with q1 | ⟨q1, q2⟩ | q1
    · have g1 : (s[k].toNat : Int) < 33 := by omega
      have HF := Lib.hid (show fieldC s = false from field_no (fun h => by have := h.2 k hlt; omega))
      clear q1
      go_wp2
      go_ret
      exact ⟨ret_bool HF.out, rfl⟩
    · have g1 : decide ((s[k].toNat : Int) < 33) = false := by simp; omega
      have g2 : decide ((126 : Int) < (s[k].toNat : Int)) = false := by simp; omega
      have HQ := Lib.hid (show 33 ≤ s[k].toNat ∧ s[k].toNat ≤ 126 from ⟨q1, q2⟩)
      clear q1 q2
      go_wp2
      go_roundg (s.size - (k + 1))
      case measure => omega
      case rel =>
        refine ⟨k + 1, by omega, by go_num, Lib.hid (fun i h h2 => ?_), rfl⟩
        by_cases e : i = k
        · subst e; exact HQ.out
        · exact HA.out i (by omega) h2
    · have g1 : decide ((s[k].toNat : Int) < 33) = false := by simp; omega
      have g2 : (126 : Int) < (s[k].toNat : Int) := by omega
      have HF := Lib.hid (show fieldC s = false from field_no (fun h => by have := h.2 k hlt; omega))
      clear q1
      go_wp2
      go_ret
      exact ⟨ret_bool HF.out, rfl⟩
/-- an entry in a box -/
def EntW (w : World) (x : Ent) (v : Value) (wr : World) : Prop := wr.heap[w.heap.size]? = some (.cells #[.string x.key, .int .i64 x.tm, v] 56 (0, 0)) ∧ Below w.heap.size w wr
theorem EntW.start (w : World) (x : Ent) (v : Value) : EntW w x v (w.alloc (.cells #[.string x.key, .int .i64 x.tm, v] 56)) := ⟨heap_alloc_new _ _, bl_alloc (Below.refl _ _) _⟩
theorem EntW.step {w wr w' : World} {x : Ent} {v : Value} (h : EntW w x v wr) (hb : Below wr.heap.size wr w') : EntW w x v w' := ⟨(hb.block _ (lt_of_heap h.1)).trans h.1, bl_trans h.2 hb⟩
theorem EntW.cells {w wr : World} {x : Ent} {v : Value} (h : EntW w x v wr) : wr.cell? ⟨w.heap.size, 0, none⟩ = some (.string x.key) ∧ wr.cell? ⟨w.heap.size, 1, none⟩ = some (.int .i64 x.tm) ∧ wr.cell? ⟨w.heap.size, 2, none⟩ = some v := by
  obtain ⟨n0, -⟩ := h
  refine ⟨?_, ?_, ?_⟩ <;> simp [World.cell?, n0]
set_option maxRecDepth 100000 in
set_option maxHeartbeats 2000000 in
theorem lcheck_any (x : Ent) (vx : Value) (w : World) (hx : EntOk x) (h : SlIs tSI (· < w.heap.size) w vx x.ps) :
    Calls Tryz.prog 45 #[.agg #[.string x.key, .int .i64 x.tm, vx]] w fun e w' => e = .returned (.int .i64 (entC x)) ∧ Below w.heap.size w w' := by
  obtain ⟨ao, cap, b, off, rfl, h1, h2, ho⟩ := si_open h
  have HB := Lib.hid (EntW.start w x (.slice ao x.ps.length cap))
  obtain ⟨k1, k5⟩ := hx
  obtain ⟨r, hr⟩ : ∃ r, fieldC x.key = r := ⟨_, rfl⟩
  have HKF := Lib.hid (show ∀ W, Calls Tryz.prog 80 #[.string x.key] W fun e w' => e = .returned (.bool r) ∧ W = w' from fun W => by rw [← hr]; exact field_any _ W k1)
  unfold maxLen at h2 k1
  unfold i64ok at k5
  have HO := Lib.hid ho
  clear h ho
  cases r with
  | false =>
    have HE := Lib.hid (ent_5 (e := x) hr)
    clear hr
    go_enter Tryz.func45, Tryz.ntmps45
    go_wp2_with (go_at_call 80; refine (HKF.out _).mono ?_; rintro e w1 ⟨rfl, rfl⟩)
    go_ret
    exact ⟨ret_int HE.out, HB.out.2⟩
  | true =>
    have HS := Lib.hid (ent_s (e := x) hr)
    clear hr
    have htm : x.tm < 0 ∨ (0 ≤ x.tm ∧ 68719476736 < x.tm) ∨ (0 ≤ x.tm ∧ x.tm ≤ 68719476736) := by omega
    rcases htm with t3 | ⟨t3, t4⟩ | ⟨t3, t4⟩
    · have HE := Lib.hid (HS.out.trans (if_pos (.inl t3)))
      go_enter Tryz.func45, Tryz.ntmps45
      go_wp2_with (go_at_call 80; refine (HKF.out _).mono ?_; rintro e w1 ⟨rfl, rfl⟩)
      go_ret
      exact ⟨ret_int HE.out, HB.out.2⟩
    · have HE := Lib.hid (HS.out.trans (if_pos (.inr t4)))
      go_enter Tryz.func45, Tryz.ntmps45
      go_wp2_with (go_at_call 80; refine (HKF.out _).mono ?_; rintro e w1 ⟨rfl, rfl⟩)
      go_ret
      exact ⟨ret_int HE.out, HB.out.2⟩
    have HS := Lib.hid (HS.out.trans (if_neg (by omega)))
    by_cases l1 : x.ps.length = 0
    · have HE := Lib.hid (HS.out.trans (if_pos l1))
      have l2 : ((x.ps.length : Int) == 0) = true := by rw [l1]; rfl
      clear l1
      go_enter Tryz.func45, Tryz.ntmps45
      go_wp2_with (go_at_call 80; refine (HKF.out _).mono ?_; rintro e w1 ⟨rfl, rfl⟩)
      go_ret
      exact ⟨ret_int HE.out, HB.out.2⟩
    have HS := Lib.hid (HS.out.trans (if_neg l1))
    have l2 : ((x.ps.length : Int) == 0) = false := by rw [beq_eq_false_iff_ne]; omega
    clear l1
    by_cases l3 : 1024 < x.ps.length
    · have HE := Lib.hid (HS.out.trans (if_pos l3))
      have l4 : (1024 : Int) < (x.ps.length : Int) := by omega
      clear l3
      go_enter Tryz.func45, Tryz.ntmps45
      go_wp2_with (go_at_call 80; refine (HKF.out _).mono ?_; rintro e w1 ⟨rfl, rfl⟩)
      go_ret
      exact ⟨ret_int HE.out, HB.out.2⟩
    have HS := Lib.hid (HS.out.trans (if_neg l3))
    have l4 : decide ((1024 : Int) < (x.ps.length : Int)) = false := by simp; omega
    go_enter Tryz.func45, Tryz.ntmps45
    go_wp2_with (go_at_call 80; refine (HKF.out _).mono ?_; rintro e w1 ⟨rfl, rfl⟩)
    go_loopg [3, 33] x.ps.length (fun g s i wr => ∃ (k : Nat) (n : Int), k + g = x.ps.length ∧ i = .int .i64 k ∧ s = .int .i64 n ∧ Hid (sumL (x.ps.take k) = n) ∧ Hid (orL (x.ps.map postE) = orL ((x.ps.drop k).map postE)) ∧ -1125899906842624 * (k : Int) ≤ n ∧ n ≤ 1125899906842624 * (k : Int) ∧ EntW w x (.slice ao x.ps.length cap) wr)
    case atStart => exact ⟨0, 0, by omega, rfl, rfl, Lib.hid rfl, Lib.hid rfl, by omega, by omega, HB.out⟩
    case round =>
      obtain ⟨k, n, hk, rfl, rfl, HN, HL, n1, n2, hw⟩ := hrel
      have HW := Lib.hid hw
      obtain ⟨d0, d1, d2⟩ := hw.cells
      by_cases hlt : k < x.ps.length
      · obtain ⟨rfl, -, hbw, hok, c0, c1⟩ := HO.out wr (.of_below hw.2) k hlt
        have k0 : (0 : Int) ≤ (k : Int) := by omega
        have k1 : (k : Int) < (x.ps.length : Int) := by omega
        have HB1 := Lib.hid (hw.step (bl_alloc (Below.refl wr.heap.size wr) (.cells #[.string x.ps[k].s, .int .i64 x.ps[k].n] 101)))
        have HSM := Lib.hid (sumL_take hlt)
        have HD := Lib.hid (orL_drop hlt)
        generalize x.ps[k] = p at *
        obtain ⟨ps, pn⟩ := p
        simp only at *
        have HERR := Lib.hid (show ∀ z, postE ⟨ps, pn⟩ = z → z ≠ 0 → entC x = z from fun z hz hz0 => HS.out.trans (posts_err (HL.out.trans (HD.out.trans (by rw [hz, if_neg hz0]))) hz0))
        obtain ⟨r, hr⟩ : ∃ r, fieldC ps = r := ⟨_, rfl⟩
        have HFF := Lib.hid (show ∀ W, Calls Tryz.prog 80 #[.string ps] W fun e w' => e = .returned (.bool r) ∧ W = w' from fun W => by rw [← hr]; exact field_any _ W hok.s)
        obtain ⟨q, hq⟩ : ∃ q, fitsM pn = q := ⟨_, rfl⟩
        have HFT := Lib.hid (show ∀ W, Calls Tryz.prog 33 #[.int .i64 pn] W fun e w' => e = .returned (.bool q) ∧ W = w' from fun W => by rw [← hq]; exact mFits_any _ W)
        have HR := Lib.hid hr
        have HQ := Lib.hid hq
        clear hr hq hok hw
        cases r with
        | false =>
          have HE := Lib.hid (HERR.out 5 (postE_5 HR.out) (by decide))
          go_wp2_with (first
                       | (go_at_call 80; refine (HFF.out _).mono ?_; rintro e w1 ⟨rfl, rfl⟩)
                       | (go_at_call 33; refine (HFT.out _).mono ?_; rintro e w1 ⟨rfl, rfl⟩))
          go_ret
          exact ⟨ret_int HE.out, HB1.out.2⟩
        | true =>
          by_cases z : pn = 0
          · have HE := Lib.hid (HERR.out 14 (postE_14 HR.out z) (by decide))
            have z1 : (pn == 0) = true := by simpa using z
            clear z
            go_wp2_with (first
                         | (go_at_call 80; refine (HFF.out _).mono ?_; rintro e w1 ⟨rfl, rfl⟩)
                         | (go_at_call 33; refine (HFT.out _).mono ?_; rintro e w1 ⟨rfl, rfl⟩))
            go_ret
            exact ⟨ret_int HE.out, HB1.out.2⟩
          have z1 : (pn == 0) = false := by simpa using z
          have HZ := Lib.hid z
          clear z
          cases q with
          | false =>
            have HE := Lib.hid (HERR.out 13 (postE_13 HR.out HZ.out HQ.out) (by decide))
            go_wp2_with (first
                         | (go_at_call 80; refine (HFF.out _).mono ?_; rintro e w1 ⟨rfl, rfl⟩)
                         | (go_at_call 33; refine (HFT.out _).mono ?_; rintro e w1 ⟨rfl, rfl⟩))
            go_ret
            exact ⟨ret_int HE.out, HB1.out.2⟩
          | true =>
            have hx := fitsM_iff.1 HQ.out
            have hw : IntKind.i64.wrap (n + pn) = n + pn := wrap_in (by omega) (by omega)
            have HX := Lib.hid (show orL (x.ps.map postE) = orL ((x.ps.drop (k + 1)).map postE) from HL.out.trans (HD.out.trans (if_pos (postE_0 HR.out HZ.out HQ.out))))
            go_wp2_with (first
                         | (go_at_call 80; refine (HFF.out _).mono ?_; rintro e w1 ⟨rfl, rfl⟩)
                         | (go_at_call 33; refine (HFT.out _).mono ?_; rintro e w1 ⟨rfl, rfl⟩))
            go_roundg (x.ps.length - (k + 1))
            case measure => omega
            case rel => exact ⟨k + 1, n + pn, by omega, by go_num, by go_num, Lib.hid (by rw [HSM.out, HN.out]), HX, by omega, by omega, HB1.out⟩
      · have hkd : decide ((k : Int) < (x.ps.length : Int)) = false := by simp; omega
        obtain rfl : k = x.ps.length := by omega
        have hn : sumL x.ps = n := by have := HN.out; rwa [List.take_length] at this
        have hz : orL (x.ps.map postE) = 0 := by have := HL.out; rw [List.drop_length] at this; exact this
        have HP := Lib.hid (HS.out.trans (posts_sum hz))
        rw [hn] at HP
        clear hn hz hw
        by_cases t : n = 0
        · have HE := Lib.hid (HP.out.trans (if_neg (by simpa using t)))
          have t1 : (n != 0) = false := by simpa using t
          clear t
          go_wp2
          go_ret
          exact ⟨ret_int HE.out, HW.out.2⟩
        · have HE := Lib.hid (HP.out.trans (if_pos t))
          have t1 : (n != 0) = true := by simpa using t
          clear t
          go_wp2
          go_ret
          exact ⟨ret_int HE.out, HW.out.2⟩
set_option maxRecDepth 100000 in
set_option maxHeartbeats 2000000 in
theorem lcheckR_any (x : Ent) (vx : Value) (w : World) (hx : EntOk x) (h : SlIs tSI (· < w.heap.size) w vx x.ps) :
    Calls Tryz.prog 46 #[.agg #[.string x.key, .int .i64 x.tm, vx]] w fun e w' => e = .returned (.int .i64 (entC x)) ∧ Below w.heap.size w w' := by
  obtain ⟨ao, cap, b, off, rfl, h1, h2, ho⟩ := si_open h
  have HB := Lib.hid (EntW.start w x (.slice ao x.ps.length cap))
  obtain ⟨k1, k5⟩ := hx
  obtain ⟨r, hr⟩ : ∃ r, fieldC x.key = r := ⟨_, rfl⟩
  have HKF := Lib.hid (show ∀ W, Calls Tryz.prog 81 #[.string x.key] W fun e w' => e = .returned (.bool r) ∧ W = w' from fun W => by rw [← hr]; exact fieldR_any _ W k1)
  unfold maxLen at h2 k1
  unfold i64ok at k5
  have HO := Lib.hid ho
  clear h ho
  cases r with
  | false =>
    have HE := Lib.hid (ent_5 (e := x) hr)
    clear hr
    go_enter Tryz.func46, Tryz.ntmps46
    go_wp2_with (go_at_call 81; refine (HKF.out _).mono ?_; rintro e w1 ⟨rfl, rfl⟩)
    go_ret
    exact ⟨ret_int HE.out, HB.out.2⟩
  | true =>
    have HS := Lib.hid (ent_s (e := x) hr)
    clear hr
    have htm : x.tm < 0 ∨ (0 ≤ x.tm ∧ 68719476736 < x.tm) ∨ (0 ≤ x.tm ∧ x.tm ≤ 68719476736) := by omega
    rcases htm with t3 | ⟨t3, t4⟩ | ⟨t3, t4⟩
    · have HE := Lib.hid (HS.out.trans (if_pos (.inl t3)))
      go_enter Tryz.func46, Tryz.ntmps46
      go_wp2_with (go_at_call 81; refine (HKF.out _).mono ?_; rintro e w1 ⟨rfl, rfl⟩)
      go_ret
      exact ⟨ret_int HE.out, HB.out.2⟩
    · have HE := Lib.hid (HS.out.trans (if_pos (.inr t4)))
      go_enter Tryz.func46, Tryz.ntmps46
      go_wp2_with (go_at_call 81; refine (HKF.out _).mono ?_; rintro e w1 ⟨rfl, rfl⟩)
      go_ret
      exact ⟨ret_int HE.out, HB.out.2⟩
    have HS := Lib.hid (HS.out.trans (if_neg (by omega)))
    by_cases l1 : x.ps.length = 0
    · have HE := Lib.hid (HS.out.trans (if_pos l1))
      have l2 : ((x.ps.length : Int) == 0) = true := by rw [l1]; rfl
      clear l1
      go_enter Tryz.func46, Tryz.ntmps46
      go_wp2_with (go_at_call 81; refine (HKF.out _).mono ?_; rintro e w1 ⟨rfl, rfl⟩)
      go_ret
      exact ⟨ret_int HE.out, HB.out.2⟩
    have HS := Lib.hid (HS.out.trans (if_neg l1))
    have l2 : ((x.ps.length : Int) == 0) = false := by rw [beq_eq_false_iff_ne]; omega
    clear l1
    by_cases l3 : 1024 < x.ps.length
    · have HE := Lib.hid (HS.out.trans (if_pos l3))
      have l4 : (1024 : Int) < (x.ps.length : Int) := by omega
      clear l3
      go_enter Tryz.func46, Tryz.ntmps46
      go_wp2_with (go_at_call 81; refine (HKF.out _).mono ?_; rintro e w1 ⟨rfl, rfl⟩)
      go_ret
      exact ⟨ret_int HE.out, HB.out.2⟩
    have HS := Lib.hid (HS.out.trans (if_neg l3))
    have l4 : decide ((1024 : Int) < (x.ps.length : Int)) = false := by simp; omega
    go_enter Tryz.func46, Tryz.ntmps46
    go_wp2_with (go_at_call 81; refine (HKF.out _).mono ?_; rintro e w1 ⟨rfl, rfl⟩)
    go_loopg [3, 4] x.ps.length (fun g s i wr => ∃ (k : Nat) (n : Int), k + g = x.ps.length ∧ i = .int .i64 k ∧ s = .int .i64 n ∧ Hid (sumL (x.ps.take k) = n) ∧ Hid (orL (x.ps.map postE) = orL ((x.ps.drop k).map postE)) ∧ -1125899906842624 * (k : Int) ≤ n ∧ n ≤ 1125899906842624 * (k : Int) ∧ EntW w x (.slice ao x.ps.length cap) wr)
    case atStart => exact ⟨0, 0, by omega, rfl, rfl, Lib.hid rfl, Lib.hid rfl, by omega, by omega, HB.out⟩
    case round =>
      obtain ⟨k, n, hk, rfl, rfl, HN, HL, n1, n2, hw⟩ := hrel
      have HW := Lib.hid hw
      obtain ⟨d0, d1, d2⟩ := hw.cells
      by_cases hlt : k < x.ps.length
      · obtain ⟨rfl, -, hbw, hok, c0, c1⟩ := HO.out wr (.of_below hw.2) k hlt
        have k0 : (0 : Int) ≤ (k : Int) := by omega
        have k1 : (k : Int) < (x.ps.length : Int) := by omega
        have HB1 := Lib.hid (hw.step (bl_alloc (Below.refl wr.heap.size wr) (.cells #[.string x.ps[k].s, .int .i64 x.ps[k].n] 101)))
        have HSM := Lib.hid (sumL_take hlt)
        have HD := Lib.hid (orL_drop hlt)
        generalize x.ps[k] = p at *
        obtain ⟨ps, pn⟩ := p
        simp only at *
        have HERR := Lib.hid (show ∀ z, postE ⟨ps, pn⟩ = z → z ≠ 0 → entC x = z from fun z hz hz0 => HS.out.trans (posts_err (HL.out.trans (HD.out.trans (by rw [hz, if_neg hz0]))) hz0))
        obtain ⟨r, hr⟩ : ∃ r, fieldC ps = r := ⟨_, rfl⟩
        have HFF := Lib.hid (show ∀ W, Calls Tryz.prog 81 #[.string ps] W fun e w' => e = .returned (.bool r) ∧ W = w' from fun W => by rw [← hr]; exact fieldR_any _ W hok.s)
        obtain ⟨q, hq⟩ : ∃ q, fitsM pn = q := ⟨_, rfl⟩
        have HFT := Lib.hid (show ∀ W, Calls Tryz.prog 82 #[.int .i64 pn] W fun e w' => e = .returned (.bool q) ∧ W = w' from fun W => by rw [← hq]; exact fits32_any _ W)
        have HR := Lib.hid hr
        have HQ := Lib.hid hq
        clear hr hq hok hw
        cases r with
        | false =>
          have HE := Lib.hid (HERR.out 5 (postE_5 HR.out) (by decide))
          go_wp2_with (first
                       | (go_at_call 81; refine (HFF.out _).mono ?_; rintro e w1 ⟨rfl, rfl⟩)
                       | (go_at_call 82; refine (HFT.out _).mono ?_; rintro e w1 ⟨rfl, rfl⟩))
          go_ret
          exact ⟨ret_int HE.out, HB1.out.2⟩
        | true =>
          by_cases z : pn = 0
          · have HE := Lib.hid (HERR.out 14 (postE_14 HR.out z) (by decide))
            have z1 : (pn == 0) = true := by simpa using z
            clear z
            go_wp2_with (first
                         | (go_at_call 81; refine (HFF.out _).mono ?_; rintro e w1 ⟨rfl, rfl⟩)
                         | (go_at_call 82; refine (HFT.out _).mono ?_; rintro e w1 ⟨rfl, rfl⟩))
            go_ret
            exact ⟨ret_int HE.out, HB1.out.2⟩
          have z1 : (pn == 0) = false := by simpa using z
          have HZ := Lib.hid z
          clear z
          cases q with
          | false =>
            have HE := Lib.hid (HERR.out 13 (postE_13 HR.out HZ.out HQ.out) (by decide))
            go_wp2_with (first
                         | (go_at_call 81; refine (HFF.out _).mono ?_; rintro e w1 ⟨rfl, rfl⟩)
                         | (go_at_call 82; refine (HFT.out _).mono ?_; rintro e w1 ⟨rfl, rfl⟩))
            go_ret
            exact ⟨ret_int HE.out, HB1.out.2⟩
          | true =>
            have hx := fitsM_iff.1 HQ.out
            have hw : IntKind.i64.wrap (n + pn) = n + pn := wrap_in (by omega) (by omega)
            have HX := Lib.hid (show orL (x.ps.map postE) = orL ((x.ps.drop (k + 1)).map postE) from HL.out.trans (HD.out.trans (if_pos (postE_0 HR.out HZ.out HQ.out))))
            go_wp2_with (first
                         | (go_at_call 81; refine (HFF.out _).mono ?_; rintro e w1 ⟨rfl, rfl⟩)
                         | (go_at_call 82; refine (HFT.out _).mono ?_; rintro e w1 ⟨rfl, rfl⟩))
            go_roundg (x.ps.length - (k + 1))
            case measure => omega
            case rel => exact ⟨k + 1, n + pn, by omega, by go_num, by go_num, Lib.hid (by rw [HSM.out, HN.out]), HX, by omega, by omega, HB1.out⟩
      · have hkd : decide ((k : Int) < (x.ps.length : Int)) = false := by simp; omega
        obtain rfl : k = x.ps.length := by omega
        have hn : sumL x.ps = n := by have := HN.out; rwa [List.take_length] at this
        have hz : orL (x.ps.map postE) = 0 := by have := HL.out; rw [List.drop_length] at this; exact this
        have HP := Lib.hid (HS.out.trans (posts_sum hz))
        rw [hn] at HP
        clear hn hz hw
        by_cases t : n = 0
        · have HE := Lib.hid (HP.out.trans (if_neg (by simpa using t)))
          have t1 : (n != 0) = false := by simpa using t
          clear t
          go_wp2
          go_ret
          exact ⟨ret_int HE.out, HW.out.2⟩
        · have HE := Lib.hid (HP.out.trans (if_pos t))
          have t1 : (n != 0) = true := by simpa using t
          clear t
          go_wp2
          go_ret
          exact ⟨ret_int HE.out, HW.out.2⟩
end Go.Proofs.YtifcelebfagjbaaGreatDoor
