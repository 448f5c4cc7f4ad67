/-
  Layer proofs, merged: PoTx QuietT PoId PoC PoC2 PoC3.
-/
import Derived.Test.YtifcelebfagjbaaGreatDoorProg
import Derived.Test.YtifcelebfagjbaaGreatDoorMgB
import Derived.Deep.RegionWith
import Derived.Deep.Cut
import Derived.Laws.RangeAny
import Derived.Laws.RangeString
import Derived.LoopTactic
import Derived.Laws.Strings2
import Derived.Lib.QuietBelow
import Derived.StillTailTactics
import Derived.Shelf.SlSortCmp.QuietGrown
import Derived.Test.YtifcelebfagjbaaGreatDoorLib
import Derived.Lib.SmallJoins
namespace Go.Tw.Po
open Go.RowKit Go.Tw
open Classical in
noncomputable def sumR (s : ByteArray) : Int := if digP s then luhnN s s.size else -1
theorem sumR_yes {s : ByteArray} (h : digP s) : sumR s = luhnN s s.size := by unfold sumR; rw [if_pos h]
theorem sumR_no {s : ByteArray} (h : ¬ digP s) : sumR s = -1 := by unfold sumR; rw [if_neg h]
theorem mod_ten (z : Int) : (Hid (z % 10 = 0) ∧ (z % 10 != 0) = false) ∨ (Hid (¬ z % 10 = 0) ∧ (z % 10 != 0) = true) := by
 by_cases q : z % 10 = 0
 · exact Or.inl ⟨Lib.hid q, by rw [q]; rfl⟩
 · exact Or.inr ⟨Lib.hid q, by simpa using q⟩
theorem tdiv_ways (m : Int) : (0 ≤ m ∧ Int.tdiv m 10 = m / 10 ∧ Int.tmod m 10 = m % 10) ∨ (m < 0 ∧ Int.tdiv m 10 = -((-m) / 10) ∧ Int.tmod m 10 = -((-m) % 10)) := by
 by_cases h : 0 ≤ m
 · exact Or.inl ⟨h, Int.tdiv_eq_ediv_of_nonneg h, Int.tmod_eq_emod_of_nonneg h⟩
 · refine Or.inr ⟨by omega, ?_, ?_⟩
   · conv => lhs; rw [show m = - -m by omega, Int.neg_tdiv]
     rw [Int.tdiv_eq_ediv_of_nonneg (by omega)]
   · conv => lhs; rw [show m = - -m by omega, Int.neg_tmod]
     rw [Int.tmod_eq_emod_of_nonneg (by omega)]
end Go.Tw.Po
namespace Go.Proofs.YtifcelebfagjbaaGreatDoor
open Go.RowKit Go.Tw Go.Tw.Po
theorem ofB_app (a b : List UInt8) : ofB a ++ ofB b = ofB (a ++ b) := by
 apply ByteArray.ext
 simp [ofB]
theorem digit_slice {r : Nat} (hr : (r : Int) + 1 ≤ 10) (w : World) : (Instr.slice 9 (.string ⟨#[48, 49, 50, 51, 52, 53, 54, 55, 56, 57]⟩) (some (.int .i64 r)) (some (.int .i64 ((r : Int) + 1))) none).run Tryz.prog w = .ok (.string (ofB [UInt8.ofNat (48 + r)])) w := by
 rw [run_slice_string w 9 _ .i64 .i64 _ _ Tryz.underlying9 (by omega) (by omega) (by show (r : Int) + 1 ≤ ((10 : Nat) : Int); omega)]; have h : r = 0 ∨ r = 1 ∨ r = 2 ∨ r = 3 ∨ r = 4 ∨ r = 5 ∨ r = 6 ∨ r = 7 ∨ r = 8 ∨ r = 9 := by omega
 rcases h with rfl | rfl | rfl | rfl | rfl | rfl | rfl | rfl | rfl | rfl <;> rfl
theorem ret_sv {a b : ByteArray} (h : a = b) : Ending.returned (.string b) = .returned (.string a) := by rw [h]
theorem ret_i {a b : Int} (h : a = b) : Ending.returned (.int .i64 b) = .returned (.int .i64 a) := by rw [h]
theorem two_ways (k : Nat) : (Hid (k % 2 = 0) ∧ Int.tmod (k : Int) 2 = 0) ∨ (Hid (¬ k % 2 = 0) ∧ Int.tmod (k : Int) 2 = 1) := by
 have e : Int.tmod (k : Int) 2 = ((k % 2 : Nat) : Int) := by
  rw [Int.tmod_eq_emod_of_nonneg (by omega)]
  omega
 by_cases h : k % 2 = 0
 · exact Or.inl ⟨Lib.hid h, by rw [e, h]; rfl⟩
 · exact Or.inr ⟨Lib.hid h, by rw [e]; omega⟩
set_option maxRecDepth 100000 in
set_option maxHeartbeats 1000000 in
theorem sumR_any (s : ByteArray) (w : World) (hl : s.size ≤ 1000) : Calls Tryz.prog 150 #[.string s] w fun e w' => e = .returned (.int .i64 (sumR s)) ∧ Below w.heap.size w w' := by
 go_enter Tryz.func150, Tryz.ntmps150
 go_wp2
 go_loopg [3, 4] s.size (fun g n i wr => ∃ (k : Nat) (z : Int), k + g = s.size ∧ i = .int .i64 k ∧ n = .int .i64 z ∧ Hid (z = luhnN s k) ∧ 0 ≤ z ∧ z ≤ 9 * k ∧ Hid (∀ i (h : i < k) (h2 : i < s.size), 48 ≤ s[i].toNat ∧ s[i].toNat ≤ 57) ∧ w = wr)
 case atStart => exact ⟨0, 0, by omega, rfl, rfl, Lib.hid rfl, by omega, by omega, Lib.hid (fun i h => absurd h (Nat.not_lt_zero _)), rfl⟩
 case round =>
  obtain ⟨k, z, hk, rfl, rfl, HZ, z1, z2, HA, rfl⟩ := hrel
  by_cases hlt : k < s.size
  case neg =>
   have HY := Lib.hid (show sumR s = z from by
    rw [HZ.out, show k = s.size by omega]
    exact sumR_yes fun i h => HA.out i (by omega) h)
   clear z1 z2; go_wp2; go_ret; exact ⟨ret_i HY.out, Below.refl _ _⟩
  have k0 : (0 : Int) ≤ (k : Int) := by omega
  have k1 : (k : Int) < (s.size : Int) := by omega
  have hb := s[k].toNat_lt; have HNX := Lib.hid (luhn_next s hlt); have z3 : z ≤ 9000 := by omega
  have hz : (48 ≤ s[k].toNat ∧ s[k].toNat ≤ 57) ∨ s[k].toNat < 48 ∨ (48 ≤ s[k].toNat ∧ 57 < s[k].toNat) := by omega
  rcases hz with ⟨q1, q2⟩ | q1 | ⟨q1, q2⟩
  · have g1 : (48 : Int) ≤ (s[k].toNat : Int) := by omega
    have g2 : (s[k].toNat : Int) ≤ 57 := by omega
    have HLB := Lib.hid (lw_bounds (i := k) (c := (s[k].toNat : Int)) g1 g2)
    have HQ := Lib.hid (show ∀ i (h : i < k + 1) (h2 : i < s.size), 48 ≤ s[i].toNat ∧ s[i].toNat ≤ 57 from fun i h h2 => by
     by_cases e : i = k
     · subst e; exact ⟨q1, q2⟩
     · exact HA.out i (by omega) h2)
    have HZ2 := Lib.hid z2; clear q1 q2 hb z2
    rcases two_ways k with ⟨t1, t2⟩ | ⟨t1, t2⟩
    · by_cases q3 : 9 < 2 * ((s[k].toNat : Int) - 48)
      · have HW := Lib.hid (show lw k (s[k].toNat : Int) = 2 * ((s[k].toNat : Int) - 48) - 9 by unfold lw; rw [if_pos t1.out, if_pos q3])
        go_wp2
        go_roundg (s.size - (k + 1))
        case measure => omega
        case rel => exact ⟨k + 1, _, by omega, by go_num, rfl, Lib.hid (by rw [HNX.out, HW.out, HZ.out]), by omega, by have := HZ2.out; omega, HQ, rfl⟩
      · have HW := Lib.hid (show lw k (s[k].toNat : Int) = 2 * ((s[k].toNat : Int) - 48) by unfold lw; rw [if_pos t1.out, if_neg q3])
        go_wp2
        go_roundg (s.size - (k + 1))
        case measure => omega
        case rel => exact ⟨k + 1, _, by omega, by go_num, rfl, Lib.hid (by rw [HNX.out, HW.out, HZ.out]), by omega, by have := HZ2.out; omega, HQ, rfl⟩
    · have HW := Lib.hid (show lw k (s[k].toNat : Int) = (s[k].toNat : Int) - 48 by unfold lw; rw [if_neg t1.out])
      by_cases q3 : 9 < (s[k].toNat : Int) - 48
      · omega
      · go_wp2
        go_roundg (s.size - (k + 1))
        case measure => omega
        case rel => exact ⟨k + 1, _, by omega, by go_num, rfl, Lib.hid (by rw [HNX.out, HW.out, HZ.out]), by omega, by have := HZ2.out; omega, HQ, rfl⟩
  · have g1 : (s[k].toNat : Int) < 48 := by omega
    have HY := Lib.hid (show sumR s = -1 from sumR_no fun h => by have := h k hlt; omega); clear q1 hb z2; go_wp2; go_ret; exact ⟨ret_i HY.out, Below.refl _ _⟩
  · have g1 : (48 : Int) ≤ (s[k].toNat : Int) := by omega
    have g2 : (57 : Int) < (s[k].toNat : Int) := by omega
    have HY := Lib.hid (show sumR s = -1 from sumR_no fun h => by have := h k hlt; omega); clear q1 q2 hb z2; go_wp2; go_ret; exact ⟨ret_i HY.out, Below.refl _ _⟩
set_option maxRecDepth 100000 in
set_option maxHeartbeats 1000000 in
theorem tagCheckR_any (s : ByteArray) (w : World) : Calls Tryz.prog 131 #[.string s] w fun e w' => e = .returned (.int .i64 (tagE 18 s)) ∧ Below w.heap.size w w' := by
 by_cases h12 : s.size = 12
 · have hz' : ((s.size : Int) != 12) = false := by rw [h12]; rfl
   have HS := Lib.hid (sumR_any s w (by omega)); have H12 := Lib.hid h12; clear h12
   by_cases hd : digP s
   · have hlb := luhn_bounds hd s.size (Nat.le_refl _)
     have HT := Lib.hid (show luhnN s s.size % 10 = 0 → tagE 18 s = 0 from fun h => tag_yes ⟨hd, H12.out, h⟩); have HF := Lib.hid (show ¬ luhnN s s.size % 10 = 0 → tagE 18 s = 18 from fun h => tag_no fun q => h q.2.2); rw [sumR_yes hd] at HS; obtain ⟨z, hz⟩ : ∃ z, luhnN s s.size = z := ⟨_, rfl⟩; rw [hz] at hlb HS HT HF; obtain ⟨z1, z2⟩ := hlb; have z3 : z ≤ 1000 := by have := H12.out; omega
     clear hz z2 hd; have z4 : decide (z < 0) = false := by rw [decide_eq_false_iff_not]; omega
     rcases mod_ten z with ⟨q1, q2⟩ | ⟨q1, q2⟩
     · go_enter Tryz.func131, Tryz.ntmps131
       go_wp2_with (go_at_call 150
                    with_reducible refine HS.out.mono ?_
                    rintro e w1 ⟨rfl, hb1⟩; have HB1 := Lib.hid hb1
                    clear hb1)
       go_ret; exact ⟨ret_i (HT.out q1.out), HB1.out⟩
     · go_enter Tryz.func131, Tryz.ntmps131
       go_wp2_with (go_at_call 150
                    with_reducible refine HS.out.mono ?_
                    rintro e w1 ⟨rfl, hb1⟩; have HB1 := Lib.hid hb1
                    clear hb1)
       go_ret; exact ⟨ret_i (HF.out q1.out), HB1.out⟩
   · rw [sumR_no hd] at HS
     have HF := Lib.hid (show tagE 18 s = 18 from tag_no fun q => hd q.1); clear hd
     go_enter Tryz.func131, Tryz.ntmps131
     go_wp2_with (go_at_call 150
                  with_reducible refine HS.out.mono ?_
                  rintro e w1 ⟨rfl, hb1⟩; have HB1 := Lib.hid hb1
                  clear hb1)
     go_ret; exact ⟨ret_i HF.out, HB1.out⟩
 · have hz' : ((s.size : Int) != 12) = true := by simp; omega
   have HF := Lib.hid (show tagE 18 s = 18 from tag_no fun q => h12 q.2.1); clear h12
   go_enter Tryz.func131, Tryz.ntmps131
   go_wp2; go_ret; exact ⟨ret_i HF.out, Below.refl _ _⟩
set_option maxRecDepth 100000 in
set_option maxHeartbeats 1000000 in
theorem FormatR_any (n : Int) (hn : i64ok n) (w : World) : Calls Tryz.prog 37 #[.int .i64 n] w fun e w' => e = .returned (.string (fmtS n)) ∧ w = w' := by
 unfold i64ok at hn
 by_cases h0 : n = 0
 · subst h0
   go_enter Tryz.func37, Tryz.ntmps37
   go_wp2; go_ret; exact ⟨ret_sv fmt_zero, rfl⟩
 have hz : (n == 0) = false := by rw [beq_eq_false_iff_ne]; exact h0
 go_enter Tryz.func37, Tryz.ntmps37
 go_wp2
 go_loopg [3, 4] n.natAbs (fun g sv mv wr => ∃ (m : Int) (t : List UInt8), g = m.natAbs ∧ mv = .int .i64 m ∧ sv = .string (ofB t) ∧ Hid (digsTo n.natAbs [] = digsTo m.natAbs t) ∧ -9223372036854775808 ≤ m ∧ m ≤ 9223372036854775807 ∧ (ofB t).size ≤ 20 ∧ Hid (t.length ≤ 20 ∧ m.natAbs * 10 ^ t.length ≤ n.natAbs) ∧ w = wr)
 case atStart => exact ⟨n, [], rfl, rfl, rfl, Lib.hid rfl, hn.1, hn.2, Nat.zero_le _, Lib.hid ⟨Nat.zero_le _, by simp⟩, rfl⟩
 case round =>
  obtain ⟨m, t, rfl, rfl, rfl, HD, m1, m2, ht, HM, rfl⟩ := hrel
  by_cases hm0 : m = 0
  · have hm : (m != 0) = false := by simp [hm0]
    have HF := Lib.hid (show digsTo n.natAbs [] = digsTo 0 t from by rw [HD.out, hm0]; rfl); have HN := Lib.hid h0; clear hm0 h0
    by_cases hneg : n < 0
    · have HY := Lib.hid (fmt_neg hneg HF.out)
      go_wp2; go_ret; exact ⟨ret_sv HY.out, rfl⟩
    · have HY := Lib.hid (fmt_pos HN.out hneg HF.out)
      go_wp2; go_ret; exact ⟨ret_sv HY.out, rfl⟩
  · have hm : (m != 0) = true := by simp [hm0]
    obtain ⟨r, hr⟩ : ∃ r : Nat, r = m.natAbs % 10 := ⟨_, rfl⟩; obtain ⟨q, hq⟩ : ∃ q, Int.tdiv m 10 = q := ⟨_, rfl⟩
    have hqa : q.natAbs = m.natAbs / 10 := by rw [← hq]; rcases tdiv_ways m with ⟨a1, a2, -⟩ | ⟨a1, a2, -⟩ <;> omega
    have hr9 : (r : Int) + 1 ≤ 10 := by omega
    have hr0 : (0 : Int) ≤ (r : Int) := by omega
    have HN := Lib.hid (show digsTo n.natAbs [] = digsTo q.natAbs (UInt8.ofNat (48 + r) :: t) from by rw [HD.out, digs_next (by omega), hqa, hr]); have hpow := HM.out
    have ht19 : t.length ≤ 19 := Classical.byContradiction fun h => by
     have h2 : 10 ^ 20 ≤ 10 ^ t.length := Nat.pow_le_pow_right (by decide) (by omega); have h3 : 1 * 10 ^ t.length ≤ m.natAbs * 10 ^ t.length := Nat.mul_le_mul_right _ (by omega)
     omega
    have HMN := Lib.hid (show (UInt8.ofNat (48 + r) :: t).length ≤ 20 ∧ q.natAbs * 10 ^ (UInt8.ofNat (48 + r) :: t).length ≤ n.natAbs from by
     refine ⟨by simp; omega, ?_⟩; rw [List.length_cons, Nat.pow_succ, Nat.mul_comm (10 ^ t.length), ← Nat.mul_assoc, hqa]
     exact Nat.le_trans (Nat.mul_le_mul_right _ (by omega)) hpow.2)
    have HS := Lib.hid (show (ofB (UInt8.ofNat (48 + r) :: t)).size ≤ 20 from HMN.out.1); have q1 : -9223372036854775808 ≤ q := by omega
    have q2 : q ≤ 9223372036854775807 := by omega
    have HMS := Lib.hid (show q.natAbs < m.natAbs by omega); have hds := digit_slice hr9 w; have h1s : (ofB [UInt8.ofNat (48 + r)]).size = 1 := rfl; have HAP := Lib.hid (ofB_app [UInt8.ofNat (48 + r)] t); generalize ofB [UInt8.ofNat (48 + r)] = c1 at hds h1s HAP; clear hpow ht19; obtain ⟨x, hx⟩ : ∃ x, Int.tmod m 10 = x := ⟨_, rfl⟩
    have hxx : (x = (r : Int)) ∨ (x < 0 ∧ -x = (r : Int)) := by rw [← hx]; rcases tdiv_ways m with ⟨a1, -, a2⟩ | ⟨a1, -, a2⟩ <;> omega
    by_cases hx0 : x < 0
    · have hxr : -x = (r : Int) := by omega
      clear hxx; clear hr hqa; go_wp2
      go_roundg q.natAbs
      case measure => exact HMS.out
      case rel => exact ⟨q, UInt8.ofNat (48 + r) :: t, rfl, rfl, congrArg Value.string HAP.out, HN, q1, q2, HS.out, HMN, rfl⟩
    · obtain rfl : x = (r : Int) := by omega
      clear hxx; clear hr hqa; go_wp2
      go_roundg q.natAbs
      case measure => exact HMS.out
      case rel => exact ⟨q, UInt8.ofNat (48 + r) :: t, rfl, rfl, congrArg Value.string HAP.out, HN, q1, q2, HS.out, HMN, rfl⟩
end Go.Proofs.YtifcelebfagjbaaGreatDoor
namespace Go.Tw
open Go.RowKit Go.Sort
section
variable {P : Program} {ops : Array Oper} {md : Region.Mode} {C : World → Prop}
def headQ (P : Program) (md : Region.Mode) (ops : Array Oper) (C : World → Prop) (n : Nat) (R : Array Bool → Act → Prop) : Nat → Array Bool → Act → Prop
 | 0, listed, a => R listed a
 | m + 1, listed, a => Region.ready md ops listed ≠ [] ∧ ∀ i ∈ Region.ready md ops listed, i < n ∧ qOp P ops C i (headQ P md ops C n R m (listed.setIfInBounds i true)) a
theorem wpAny_of_headQ {n g : Nat} {R : Array Bool → Act → Prop} {Q' : Exit → Act → World → Prop} (hR : ∀ listed a w, C w → R listed a → wpAny P md ops Q' g listed a w) :
  ∀ (m : Nat) (listed : Array Bool) (a : Act) (w : World), C w → headQ P md ops C n R m listed a → wpAny P md ops Q' (m + g) listed a w
 | 0, listed, a, w, hw, h => by rw [Nat.zero_add]; exact hR _ _ _ hw h
 | m + 1, listed, a, w, hw, h => by
  rw [show m + 1 + g = (m + g) + 1 by omega]; exact ⟨fun h0 => absurd h0 h.1, fun i hi => wpOp_of_qOp hw (fun a' w' hw' h' => wpAny_of_headQ hR m _ a' w' hw' h') (h.2 i hi).2⟩
theorem headQ_first {n i : Nat} {oi : Oper} {v : Value} {R : Array Bool → Act → Prop} (hi : ops[i]? = some oi) (hsel : ∀ (j : Nat) (o : Oper) cs b, ops[j]? = some o → o.op ≠ .select cs b)
  (hs : Region.sinkB md ops n = true) (hc : Region.chainB md ops n = true) (hn : n < ops.size) (hin : i < n) (hdone : ∀ listed a, R listed a → ∀ j ∈ Region.ready md ops listed, n ≤ j) :
  ∀ (m : Nat) (listed : Array Bool) (a : Act), HeadInv md ops n listed →
   (∀ j oj, ops[j]? = some oj → j ≠ i → listed.getD j true = false → (∀ e ∈ oj.after, Region.binds md e = true → e.on ≠ i) → oi.apart ops oj = true) →
   i ∈ Region.ready md ops listed → YieldsIn P ops C oi v a →
   headQ P md ops C n R m (listed.setIfInBounds i true) (a.put oi.dst v) → headQ P md ops C n R (m + 1) listed a := by
 intro m
 induction m with
 | zero =>
  intro listed a inv _ hr hy H; have hun := (mem_ready.1 hr).1; refine ⟨fun h => (by rw [h] at hr; cases hr), fun j hj => ?_⟩; have hjn : j < n := Nat.lt_of_not_le fun h => tail_waits hs hc hn inv _ i rfl hin hun j h hj
  refine ⟨hjn, ?_⟩
  by_cases hji : j = i
  · subst hji; exact hy.qOp hi H
  · have := hdone _ _ H j (ready_mono hj hji)
    omega
 | succ m ih =>
  intro listed a inv hfree hr hy H; have hun := (mem_ready.1 hr).1; refine ⟨fun h => (by rw [h] at hr; cases hr), fun j hj => ?_⟩; have hjn : j < n := Nat.lt_of_not_le fun h => tail_waits hs hc hn inv _ i rfl hin hun j h hj
  refine ⟨hjn, ?_⟩
  by_cases hji : j = i
  · subst hji; exact hy.qOp hi H
  · have h1 := (H.2 j (ready_mono hj hji)).2
    obtain ⟨hjun, oj, hoj, hall⟩ := mem_ready.1 hj
    have hnot : ∀ e ∈ oj.after, Region.binds md e = true → e.on ≠ i := fun e he hb heq => by
     have h1 := hall e he hb; rw [heq, getD_both hun] at h1
     cases h1
    have h2 := qOp_put hoj (hfree j oj hoj hji hjun hnot) (fun cs b => hsel i oi cs b hi) (fun cs b => hsel j oj cs b hoj) hy h1
    have hfree' : ∀ k ok, ops[k]? = some ok → k ≠ i → (listed.setIfInBounds j true).getD k true = false →
      (∀ e ∈ ok.after, Region.binds md e = true → e.on ≠ i) → oi.apart ops ok = true := fun k ok hk hki hun hno => by
     refine hfree k ok hk hki ?_ hno
     by_cases hjk : j = k
     · subst hjk; exact hjun
     · rw [getD_set_ne true hjk] at hun; exact hun
    refine qOp_mono (fun a' h3 => ih (listed.setIfInBounds j true) a' (inv.set hj hjn) hfree' (ready_mono hr (Ne.symm hji)) h3.1 ?_) h2; rw [Array.setIfInBounds_comm _ _ hji]; exact h3.2
theorem headQ_lex {n g : Nat} {Lq : Act → Prop} (hsel : Region.noSelect ops = true) (hs : Region.sinkB md ops n = true) (hc : Region.chainB md ops n = true) (hn : n < ops.size) :
  ∀ (l : List Oper) (k : Nat) (listed : Array Bool) (a : Act), (∀ j, j < l.length → l[j]? = ops[k + j]?) → k + l.length = n → HeadInv md ops n listed →
  Region.lexHead md ops g l.length k listed = true → wpQuiet P ops C Lq l a →
  headQ P md ops C n (fun listed' a' => Region.seqB md ops g n listed' = true ∧ Lq a') l.length listed a
 | [], k, listed, a, _, hk, _, hB, h => by
  have : k = n := by simpa using hk
  subst this; exact ⟨by simpa [Region.lexHead] using hB, h⟩
 | o :: l, k, listed, a, hl, hk, inv, hB, h => by
  have h0 : ops[k]? = some o := by simpa using (hl 0 (by simp)).symm
  simp only [List.length_cons, Region.lexHead, Bool.and_eq_true] at hB; obtain ⟨⟨hr, hf⟩, hB'⟩ := hB; have hkn : k < n := by simp only [List.length_cons] at hk; omega
  have hr' : k ∈ Region.ready md ops listed := by simpa using hr
  have hst : qOp P ops C k (wpQuiet P ops C Lq l) a := by unfold qOp; simp only [h0]; exact h
  obtain ⟨v, hy, hK⟩ := yieldsIn_of_qOp h0 hst
  exact headQ_first h0 (Region.noSelect_spec hsel) hs hc hn hkn (fun listed' a' hL => seqB_ready hL.1) l.length listed a inv (Region.free_spec h0 hf) hr' hy
   (headQ_lex hsel hs hc hn l (k + 1) _ _ (fun j hj => by have := hl (j + 1) (by simp; omega); simpa [Nat.add_assoc, Nat.add_comm 1 j] using this) (by simp only [List.length_cons] at hk; omega) (inv.set hr' hkn) hB' hK)
theorem wp_region_quiet_tail {id : Nat} {Q : Exit → Act → World → Prop} {a : Act} {w : World} {l : List Oper} (n : Nat) (hm : P.follows .mixedOrders = true) (hB : Region.lexTailB .any l.toArray n = true) (hC : C w.drew)
  (h : wpQuiet P l.toArray C (fun a' => ∀ w', C w' → wpList P l.toArray Q (l.drop n) a' w') (l.take n) a) : (Code.region id l.toArray true).wp P Q a w := by
 simp only [Region.lexTailB, Bool.and_eq_true, decide_eq_true_eq] at hB; obtain ⟨⟨⟨⟨hsel, hn⟩, hs⟩, hc⟩, hlex⟩ := hB; have hn' : n < l.length := by simpa using hn
 have htl : (l.take n).length = n := by simp; omega
 have hdl : (l.drop n).length = l.toArray.size - n := by simp
 have inv0 : HeadInv .any l.toArray n (Array.replicate l.toArray.size false) :=
  ⟨by simp, fun j oj _ hl => (by rw [getD_replicate_false] at hl; cases hl), fun t _ ht => getD_in (by simpa using ht) (getD_replicate_false _ _)⟩
 have H := headQ_lex (md := .any) (g := l.toArray.size - n) hsel hs hc hn (l.take n) 0 _ a (fun j hj => by
  have hj' : j < n := by rw [htl] at hj; exact hj
  simp [hj']) (by simpa using htl) inv0 (by rw [htl]; exact hlex) h
 refine wp_region_any hm ?_
 have := wpAny_of_headQ (Q' := Q) (g := l.toArray.size - n) (fun listed a' w' hw' hL => by
  have := wpAny_of_seq (md := .any) (Q' := Q) (l.drop n) n listed a' w' (fun j => by simp [List.getElem?_drop]) (by rw [hdl]; exact hL.1) (hL.2 w' hw')
  rwa [hdl] at this) _ _ _ _ hC H
 rw [htl, show n + (l.toArray.size - n) = l.toArray.size by omega] at this; exact this
theorem wp_region_below_tail {id : Nat} {Q : Exit → Act → World → Prop} {a : Act} {w : World} {l : List Oper} (n : Nat) (hm : P.follows .mixedOrders = true) (hB : Region.lexTailB .any l.toArray n = true)
  (h : wpQuiet P l.toArray (fun w' => ∃ p : Regrown, w' = grow (redrawn w p.d) p.os) (fun a' => ∀ w', Below w.heap.size w w' → wpList P l.toArray Q (l.drop n) a' w') (l.take n) a) : (Code.region id l.toArray true).wp P Q a w :=
 wp_region_quiet_tail (C := fun w' => ∃ p : Regrown, w' = grow (redrawn w p.d) p.os) n hm hB ⟨⟨w.drawn + 1, #[]⟩, by rw [grow_empty]; rfl⟩ (by
  have mono : ∀ (l' : List Oper) (a : Act), wpQuiet P l.toArray (fun w' => ∃ p : Regrown, w' = grow (redrawn w p.d) p.os) (fun a' => ∀ w', Below w.heap.size w w' → wpList P l.toArray Q (l.drop n) a' w') l' a → wpQuiet P l.toArray (fun w' => ∃ p : Regrown, w' = grow (redrawn w p.d) p.os) (fun a' => ∀ w', (∃ p : Regrown, w' = grow (redrawn w p.d) p.os) → wpList P l.toArray Q (l.drop n) a' w') l' a := by
   intro l'
   induction l' with
   | nil => intro a h w' hw'; obtain ⟨p, rfl⟩ := hw'; exact h _ (below_regrown w p.d p.os)
   | cons o l' ih =>
    intro a h; unfold wpQuiet at h ⊢
    split
    · rename_i q; rw [if_pos q] at h; exact Oper.quiet_mono ih h
    · rename_i q; rw [if_neg q] at h; exact ih _ h
  exact mono _ _ h)
theorem wp_region_grown_tail {id : Nat} {Q : Exit → Act → World → Prop} {a : Act} {w : World} {l : List Oper} (n : Nat) (hm : P.follows .mixedOrders = true) (hB : Region.lexTailB .any l.toArray n = true)
  (h : wpQuiet P l.toArray (fun w' => ∃ p : GrownBy, w' = grow (w.drewN p.n) p.os) (fun a' => ∀ w', (∃ p : GrownBy, w' = grow (w.drewN p.n) p.os) → wpList P l.toArray Q (l.drop n) a' w') (l.take n) a) : (Code.region id l.toArray true).wp P Q a w :=
 wp_region_quiet_tail (C := fun w' => ∃ p : GrownBy, w' = grow (w.drewN p.n) p.os) n hm hB ⟨⟨1, #[]⟩, by rw [grow_empty]; rfl⟩ h
def GrB (w w' : World) : Prop := ∃ q os, w' = grow (w.drewN q) os
theorem GrB.refl (w : World) : GrB w w := ⟨0, #[], by rw [grow_empty]; rfl⟩
theorem GrB.trans {a b c : World} (h : GrB a b) (k : GrB b c) : GrB a c := by
 obtain ⟨q, os, rfl⟩ := h; obtain ⟨q', os', rfl⟩ := k; exact ⟨q + q', os ++ os', by show grow (grow ((a.drewN q).drewN q') os) os' = _; rw [grow_grow, World.drewN_drewN]⟩
theorem GrB.alloc {a b : World} (h : GrB a b) (o : Obj) : GrB a (b.alloc o) := h.trans ⟨0, #[o], by show ({ b with heap := b.heap.push o } : World) = { b with heap := b.heap ++ #[o] }; congr 1⟩
theorem GrB.below {a b : World} (h : GrB a b) : Below a.heap.size a b := by
 obtain ⟨q, os, rfl⟩ := h
 exact ⟨rfl, rfl, rfl, by simp [grow], fun k hk => by
  show (a.heap ++ os)[k]? = _
  rw [Array.getElem?_append_left hk]⟩
end
end Go.Tw
namespace Go.Tw.Po
open Go.RowKit Go.Tw
theorem nDigits_le : ∀ (k u : Nat), u < 10 ^ (k + 1) → Lib.nDigits u ≤ k + 1
 | 0, u, h => by rw [Lib.nDigits_small (by simpa using h)]; exact Nat.le_refl _
 | k + 1, u, h => by
  by_cases q : u < 10
  · rw [Lib.nDigits_small q]; omega
  · rw [Lib.nDigits_big q]
    rw [Nat.pow_succ] at h; have := nDigits_le k (u / 10) (by omega)
    omega
theorem fmt_size {n : Int} (h : i64ok n) : (fmtS n).size ≤ 20 := by
 unfold i64ok at h
 have hd : ∀ u : Nat, u < 10 ^ 19 → (Lib.decDigits u).length ≤ 19 := fun u hu => by
  rw [Lib.decDigits_length]; exact nDigits_le 18 u hu
 show (Lib.itoa n).length ≤ 20
 unfold Lib.itoa
 split
 · rw [List.length_cons]
   have := hd n.natAbs (by omega)
   omega
 · have := hd n.toNat (by omega)
   omega
end Go.Tw.Po
namespace Go.Proofs.YtifcelebfagjbaaGreatDoor
open Go.RowKit Go.Tw Go.Tw.Ord Go.Tw.Po Go.Sort
def FmtOk (n : Int) (w : World) : Prop := ∀ w', Below w.heap.size w w' → Calls Tryz.prog 69 #[.int .i64 n] w' fun e w'' => e = .returned (.string (fmtS n)) ∧ GrB w' w''
theorem FmtOk.step {n : Int} {w w' : World} (h : FmtOk n w) (hb : Below w.heap.size w w') : FmtOk n w' := fun w'' hw => h w'' (bl_trans hb hw)
set_option maxHeartbeats 400000 in
theorem fmt_of (n : Int) (w : World) (h : Calls Tryz.prog 107 #[.int .i64 n] w fun e w' => e = .returned (.string (fmtS n)) ∧ GrB w w') : Calls Tryz.prog 69 #[.int .i64 n] w fun e w' => e = .returned (.string (fmtS n)) ∧ GrB w w' := by
 have H := Lib.hid h; clear h
 go_enter Tryz.func69, Tryz.ntmps69
 go_wp2_with (go_at_call 107
              with_reducible refine H.out.mono ?_
              rintro e w1 ⟨rfl, hg⟩; have HG := Lib.hid hg
              clear hg)
 go_ret; exact ⟨rfl, HG.out⟩
end Go.Proofs.YtifcelebfagjbaaGreatDoor
namespace Go.Tw.Po
open Go.RowKit Go.Tw Go.Sort Go.Tw.Ord
theorem emp_yes {s : ByteArray} (h : s.size = 0) : s.toList.isEmpty = true := by
 have : s = ByteArray.empty := ByteArray.ext (Array.eq_empty_of_size_eq_zero h); subst this; rw [show ByteArray.empty.toList = [] by unfold ByteArray.toList ByteArray.toList.loop; rfl]
 rfl
theorem emp_no {s : ByteArray} (h : s.size ≠ 0) : s.toList.isEmpty = false := by
 cases hs : s.toList with
 | nil =>
  have h1 : (s.toList == ByteArray.toList ByteArray.empty) = false := by
   rw [eq_str]; simp; rintro rfl; exact h rfl
  rw [hs] at h1; exact absurd h1 (by rw [show ByteArray.empty.toList = [] by unfold ByteArray.toList ByteArray.toList.loop; rfl]; simp)
 | cons _ _ => rfl
theorem fitsM_no {n : Int} (h : n < -1125899906842624 ∨ 1125899906842624 < n) : fitsM n = false := by unfold fitsM; simp; omega
theorem fitsM_yes {n : Int} (h1 : -1125899906842624 ≤ n) (h2 : n ≤ 1125899906842624) : fitsM n = true := by unfold fitsM; simp; omega
theorem fitsM_iff {n : Int} : fitsM n = true ↔ -1125899906842624 ≤ n ∧ n ≤ 1125899906842624 := by unfold fitsM; simp
theorem sumL_snoc (l : List SI) (x : SI) : sumL (l ++ [x]) = sumL l + x.n := by unfold sumL; simp
theorem sumL_take {l : List SI} {k : Nat} (h : k < l.length) : sumL (l.take (k + 1)) = sumL (l.take k) + l[k].n := by
 rw [List.take_succ_eq_append_getElem h, sumL_snoc]
def Fit (l : List SI) : Prop := ∀ x ∈ l, fitsM x.n = true
theorem fit_all {l : List SI} : (l.all fun x => fitsM x.n) = true ↔ Fit l := by unfold Fit; rw [List.all_eq_true]
theorem all_no {l : List SI} {k : Nat} (hk : k < l.length) (h : fitsM l[k].n = false) : (l.all fun x => fitsM x.n) = false := by
 rw [List.all_eq_false]; exact ⟨_, List.getElem_mem hk, by rw [h]; decide⟩
theorem fit_sum {l : List SI} (h : Fit l) : -1125899906842624 * (l.length : Int) ≤ sumL l ∧ sumL l ≤ 1125899906842624 * (l.length : Int) := by
 induction l with
 | nil => exact ⟨by simp [sumL], by simp [sumL]⟩
 | cons x l ih =>
  obtain ⟨h1, h2⟩ := ih (fun y hy => h y (List.mem_cons_of_mem _ hy)); have h3 := fitsM_iff.1 (h x (List.mem_cons_self)); have e : sumL (x :: l) = x.n + sumL l := by unfold sumL; simp
  rw [e, List.length_cons]
  omega
theorem si_open {S : Nat → Prop} {w : World} {v : Value} {l : List SI} (h : SlIs tSI S w v l) :
  ∃ ao cap b off, v = .slice ao l.length cap ∧ l.length ≤ cap ∧ cap ≤ maxLen ∧ ∀ w', SameOn S w w' → ∀ k (_ : k < l.length), ao = some ⟨b, off, none⟩ ∧ S b ∧ b < w.heap.size ∧ SIOk l[k] ∧
   w'.cell? ⟨b, off + k * 2, none⟩ = some (.string l[k].s) ∧ w'.cell? ⟨b, off + k * 2 + 1, none⟩ = some (.int .i64 l[k].n) := by
 obtain ⟨ao, cap, b, off, hv, h1, h2, h3⟩ := h.openS; refine ⟨ao, cap, b, off, hv, h1, h2, fun w' hw k hk => ?_⟩; obtain ⟨g1, g2, g2', cs, g3, g4⟩ := h3 w' hw k hk; obtain ⟨rfl, g5⟩ := tSI_is g4; have := cells2 (f := fun j => w'.cell? ⟨b, off + k * 2 + j, none⟩) g3; exact ⟨g1, g2, g2', g5, this⟩
end Go.Tw.Po
namespace Go.Proofs.YtifcelebfagjbaaGreatDoor
open Go.RowKit Go.Tw Go.Tw.Ord Go.Tw.Po Go.Sort
theorem mFits_any (n : Int) (w : World) : Calls Tryz.prog 33 #[.int .i64 n] w fun e w' => e = .returned (.bool (fitsM n)) ∧ w = w' := by
 by_cases h1 : n < -1125899906842624
 · have HF := Lib.hid (fitsM_no (.inl h1))
   go_enter Tryz.func33, Tryz.ntmps33
   go_wp2; go_ret; exact ⟨ret_bool HF.out, rfl⟩
 by_cases h2 : 1125899906842624 < n
 · have HF := Lib.hid (fitsM_no (.inr h2))
   have h1' : (-1125899906842624 : Int) ≤ n := by omega
   have h2' : decide (n ≤ 1125899906842624) = false := by simp; omega
   clear h1 h2
   go_enter Tryz.func33, Tryz.ntmps33
   go_wp2; go_ret; exact ⟨ret_bool HF.out, rfl⟩
 · have h1' : (-1125899906842624 : Int) ≤ n := by omega
   have h2' : n ≤ 1125899906842624 := by omega
   have HF := Lib.hid (fitsM_yes h1' h2'); clear h1 h2
   go_enter Tryz.func33, Tryz.ntmps33
   go_wp2; go_ret; exact ⟨ret_bool HF.out, rfl⟩
theorem mFitsR_any (n : Int) (w : World) : Calls Tryz.prog 71 #[.int .i64 n] w fun e w' => e = .returned (.bool (fitsM n)) ∧ w = w' := by
 by_cases h1 : n < -1125899906842624
 · have HF := Lib.hid (fitsM_no (.inl h1))
   go_enter Tryz.func71, Tryz.ntmps71
   go_wp2; go_ret; exact ⟨ret_bool HF.out, rfl⟩
 by_cases h2 : 1125899906842624 < n
 · have HF := Lib.hid (fitsM_no (.inr h2))
   have h1' : (-1125899906842624 : Int) ≤ n := by omega
   have h2' : decide (n ≤ 1125899906842624) = false := by simp; omega
   clear h1 h2
   go_enter Tryz.func71, Tryz.ntmps71
   go_wp2; go_ret; exact ⟨ret_bool HF.out, rfl⟩
 · have h1' : (-1125899906842624 : Int) ≤ n := by omega
   have h2' : n ≤ 1125899906842624 := by omega
   have HF := Lib.hid (fitsM_yes h1' h2'); clear h1 h2
   go_enter Tryz.func71, Tryz.ntmps71
   go_wp2; go_ret; exact ⟨ret_bool HF.out, rfl⟩
theorem fits32_any (n : Int) (w : World) : Calls Tryz.prog 82 #[.int .i64 n] w fun e w' => e = .returned (.bool (fitsM n)) ∧ w = w' := by
 by_cases h1 : n < -1125899906842624
 · have HF := Lib.hid (fitsM_no (.inl h1))
   go_enter Tryz.func82, Tryz.ntmps82
   go_wp2; go_ret; exact ⟨ret_bool HF.out, rfl⟩
 by_cases h2 : 1125899906842624 < n
 · have HF := Lib.hid (fitsM_no (.inr h2))
   have h1' : (-1125899906842624 : Int) ≤ n := by omega
   have h2' : decide (n ≤ 1125899906842624) = false := by simp; omega
   clear h1 h2
   go_enter Tryz.func82, Tryz.ntmps82
   go_wp2; go_ret; exact ⟨ret_bool HF.out, rfl⟩
 · have h1' : (-1125899906842624 : Int) ≤ n := by omega
   have h2' : n ≤ 1125899906842624 := by omega
   have HF := Lib.hid (fitsM_yes h1' h2'); clear h1 h2
   go_enter Tryz.func82, Tryz.ntmps82
   go_wp2; go_ret; exact ⟨ret_bool HF.out, rfl⟩
set_option maxHeartbeats 1000000 in
theorem psum_any (l : List SI) (v : Value) (w : World) (h : SlIs tSI (· < w.heap.size) w v l) (hl : l.length ≤ 1000) (hf : Fit l) :
  Calls Tryz.prog 68 #[v] w fun e w' => e = .returned (.int .i64 (sumL l)) ∧ Below w.heap.size w w' := by
 obtain ⟨ao, cap, b, off, rfl, h1, h2, ho⟩ := si_open h; unfold maxLen at h2; have HF := Lib.hid hf; clear h hf
 go_enter Tryz.func68, Tryz.ntmps68
 go_wp2
 go_loopg [3, 8] l.length (fun g s i wr => ∃ (k : Nat) (n : Int), k + g = l.length ∧ i = .int .i64 k ∧ s = .int .i64 n ∧ Hid (sumL (l.take k) = n) ∧ -1125899906842624 * (k : Int) ≤ n ∧ n ≤ 1125899906842624 * (k : Int) ∧ Below w.heap.size w wr)
 case atStart => exact ⟨0, 0, by omega, rfl, rfl, Lib.hid rfl, by omega, by omega, Below.refl _ _⟩
 case round =>
  obtain ⟨k, n, hk, rfl, rfl, HN, n1, n2, hb1⟩ := hrel; have HB1 := Lib.hid hb1
  by_cases hlt : k < l.length
  · obtain ⟨rfl, -, hbw, -, c0, c1⟩ := ho wr (.of_below hb1) k hlt
    have hx := fitsM_iff.1 (HF.out l[k] (List.getElem_mem hlt)); have HS := Lib.hid (sumL_take hlt); have k0 : (0 : Int) ≤ (k : Int) := by omega
    have k1 : (k : Int) < (l.length : Int) := by omega
    generalize l[k] = r at *; obtain ⟨xs, xn⟩ := r; simp only at *; have hw : IntKind.i64.wrap (n + xn) = n + xn := wrap_in (by omega) (by omega); clear ho hb1; go_wp2
    go_roundg (l.length - (k + 1))
    case measure => omega
    case rel => exact ⟨k + 1, n + xn, by omega, by go_num, by go_num, Lib.hid (by rw [HS.out, HN.out]), by omega, by omega, bl_alloc HB1.out _⟩
  · have hkd : decide ((k : Int) < (l.length : Int)) = false := by simp; omega
    obtain rfl : k = l.length := by omega
    have HN2 := Lib.hid (show n = sumL l by have := HN.out; rw [List.take_length] at this; exact this.symm); clear ho; go_wp2; go_ret; exact ⟨ret_int HN2.out.symm, HB1.out⟩
end Go.Proofs.YtifcelebfagjbaaGreatDoor
namespace Go.Tw.Po
open Go.RowKit Go.Tw Go.Sort Go.Tw.Ord
theorem chk_6 {x : Chg} (h : x.key.size = 0 ∨ x.veh.size = 0) : chkC x = 6 := by unfold chkC; rw [if_pos h]
def chk2 (x : Chg) : Int := if (x.ls.all fun l => fitsM l.n) = false then 13 else if x.c < 0 ∨ 1125899906842624 < x.c then 13 else if x.c ≠ sumL x.ls then 8 else 0
theorem chk_s {x : Chg} (h1 : x.key.size ≠ 0) (h2 : x.veh.size ≠ 0) : chkC x = if x.cls < 0 ∨ 9 < x.cls then 20 else if x.tm < 0 ∨ 68719476736 < x.tm then 12 else chk2 x := by
 unfold chkC chk2; rw [if_neg (by omega)]
theorem chk2_13 {x : Chg} (h : (x.ls.all fun l => fitsM l.n) = false) : chk2 x = 13 := by unfold chk2; rw [if_pos h]
theorem chk2_c {x : Chg} (h : Fit x.ls) : chk2 x = if x.c < 0 ∨ 1125899906842624 < x.c then 13 else if x.c ≠ sumL x.ls then 8 else 0 := by
 unfold chk2; rw [if_neg (by rw [fit_all.2 h]; decide)]
end Go.Tw.Po
namespace Go.Proofs.YtifcelebfagjbaaGreatDoor
open Go.RowKit Go.Tw Go.Tw.Ord Go.Tw.Po Go.Sort
def ChgW (w : World) (x : Chg) (v : Value) (wr : World) : Prop := wr.heap[w.heap.size]? = some (.cells #[.string x.key, .string x.veh, .string x.sys, .int .i64 x.cls, .int .i64 x.tm, v, .int .i64 x.c] 49 (0, 0)) ∧ Below w.heap.size w wr
theorem ChgW.start (w : World) (x : Chg) (v : Value) : ChgW w x v (w.alloc (.cells #[.string x.key, .string x.veh, .string x.sys, .int .i64 x.cls, .int .i64 x.tm, v, .int .i64 x.c] 49)) := ⟨heap_alloc_new _ _, bl_alloc (Below.refl _ _) _⟩
theorem ChgW.step {w wr w' : World} {x : Chg} {v : Value} (h : ChgW w x v wr) (hb : Below wr.heap.size wr w') : ChgW w x v w' := ⟨(hb.block _ (lt_of_heap h.1)).trans h.1, bl_trans h.2 hb⟩
set_option maxRecDepth 100000 in
set_option maxHeartbeats 2000000 in
theorem pcheck_any (x : Chg) (vx : Value) (w : World) (hx : ChgOk x) (h : SlIs tSI (· < w.heap.size) w vx x.ls) (hl : x.ls.length ≤ 1000) :
  Calls Tryz.prog 32 #[.agg #[.string x.key, .string x.veh, .string x.sys, .int .i64 x.cls, .int .i64 x.tm, vx, .int .i64 x.c]] w fun e w' => e = .returned (.int .i64 (chkC x)) ∧ Below w.heap.size w w' := by
 have H := Lib.hid h; obtain ⟨ao, cap, b, off, rfl, h1, h2, ho⟩ := si_open h; have HB := Lib.hid (ChgW.start w x (.slice ao x.ls.length cap)); obtain ⟨k1, k2, k3, k4, k5, k6⟩ := hx; unfold maxLen at h2 k1 k2 k3; unfold i64ok at k4 k5 k6; have HO := Lib.hid ho; clear h ho
 by_cases e1 : x.key.size = 0
 · have HE := Lib.hid (chk_6 (x := x) (.inl e1))
   have q1 := emp_yes e1; clear e1
   go_enter Tryz.func32, Tryz.ntmps32
   go_wp2; go_ret; exact ⟨ret_int HE.out, HB.out.2⟩
 have q1 := emp_no e1
 by_cases e2 : x.veh.size = 0
 · have HE := Lib.hid (chk_6 (x := x) (.inr e2))
   have q2 := emp_yes e2; clear e1 e2
   go_enter Tryz.func32, Tryz.ntmps32
   go_wp2; go_ret; exact ⟨ret_int HE.out, HB.out.2⟩
 have q2 := emp_no e2; have HS := Lib.hid (chk_s e1 e2); clear e1 e2; have hcl : x.cls < 0 ∨ (0 ≤ x.cls ∧ 9 < x.cls) ∨ (0 ≤ x.cls ∧ x.cls ≤ 9) := by omega
 rcases hcl with t1 | ⟨t1, t2⟩ | ⟨t1, t2⟩
 · have HE := Lib.hid (HS.out.trans (if_pos (.inl t1)))
   go_enter Tryz.func32, Tryz.ntmps32
   go_wp2; go_ret; exact ⟨ret_int HE.out, HB.out.2⟩
 · have HE := Lib.hid (HS.out.trans (if_pos (.inr t2)))
   go_enter Tryz.func32, Tryz.ntmps32
   go_wp2; go_ret; exact ⟨ret_int HE.out, HB.out.2⟩
 have HS := Lib.hid (HS.out.trans (if_neg (by omega))); have htm : x.tm < 0 ∨ (0 ≤ x.tm ∧ 68719476736 < x.tm) ∨ (0 ≤ x.tm ∧ x.tm ≤ 68719476736) := by omega
 rcases htm with t3 | ⟨t3, t4⟩ | ⟨t3, t4⟩
 · have HE := Lib.hid (HS.out.trans (if_pos (.inl t3)))
   go_enter Tryz.func32, Tryz.ntmps32
   go_wp2; go_ret; exact ⟨ret_int HE.out, HB.out.2⟩
 · have HE := Lib.hid (HS.out.trans (if_pos (.inr t4)))
   go_enter Tryz.func32, Tryz.ntmps32
   go_wp2; go_ret; exact ⟨ret_int HE.out, HB.out.2⟩
 have HS := Lib.hid (HS.out.trans (if_neg (by omega)))
 go_enter Tryz.func32, Tryz.ntmps32
 go_wp2
 go_loopg [35] x.ls.length (fun g i wr => ∃ (k : Nat), k + g = x.ls.length ∧ i = .int .i64 k ∧ Hid (Fit (x.ls.take k)) ∧ ChgW w x (.slice ao x.ls.length cap) wr)
 case atStart => exact ⟨0, by omega, rfl, Lib.hid (fun y hy => by simp at hy), HB.out⟩
 case round =>
  obtain ⟨k, hk, rfl, HF, hw⟩ := hrel; have HW := Lib.hid hw
  by_cases hlt : k < x.ls.length
  · obtain ⟨rfl, -, hbw, -, c0, c1⟩ := HO.out wr (.of_below hw.2) k hlt
    have k0 : (0 : Int) ≤ (k : Int) := by omega
    have k1 : (k : Int) < (x.ls.length : Int) := by omega
    have HX := Lib.hid (show ∀ W, Calls Tryz.prog 33 #[.int .i64 x.ls[k].n] W fun e w' => e = .returned (.bool (fitsM x.ls[k].n)) ∧ W = w' from fun W => mFits_any _ W)
    have HN := Lib.hid (show ∀ r, fitsM x.ls[k].n = r → if r = true then Fit (x.ls.take (k + 1)) else chk2 x = 13 from fun r hr => by
     cases r
     · simp only [Bool.false_eq_true, if_false]
       exact chk2_13 (all_no hlt hr)
     · rw [if_pos rfl, List.take_succ_eq_append_getElem hlt]
       intro y hy
       rcases List.mem_append.1 hy with hy | hy
       · exact HF.out y hy
       · rw [List.mem_singleton] at hy
         rw [hy]; exact hr)
    have HB1 := Lib.hid (hw.step (bl_alloc (Below.refl wr.heap.size wr) (.cells #[.string x.ls[k].s, .int .i64 x.ls[k].n] 140))); obtain ⟨n0, -⟩ := hw; obtain ⟨r, hr⟩ : ∃ r, fitsM x.ls[k].n = r := ⟨_, rfl⟩; have HM := HN.out r hr; rw [hr] at HX; clear hr HN; generalize x.ls[k].n = xn at *; generalize x.ls[k].s = xs at *
    cases r with
    | false =>
     have HE := Lib.hid (HS.out.trans (by simpa using HM)); clear HM
     go_wp2_with (go_at_call 33; refine (HX.out _).mono ?_; rintro e w1 ⟨rfl, rfl⟩)
     go_ret; exact ⟨ret_int HE.out, HB1.out.2⟩
    | true =>
     have HM' := Lib.hid (show Fit (x.ls.take (k + 1)) by simpa using HM); clear HM
     go_wp2_with (go_at_call 33; refine (HX.out _).mono ?_; rintro e w1 ⟨rfl, rfl⟩)
     go_roundg (x.ls.length - (k + 1))
     case measure => omega
     case rel => exact ⟨k + 1, by omega, by go_num, HM', HB1.out⟩
  · have hkd : decide ((k : Int) < (x.ls.length : Int)) = false := by simp; omega
    obtain rfl : k = x.ls.length := by omega
    have hf : Fit x.ls := by have := HF.out; rwa [List.take_length] at this
    have HC := Lib.hid (HS.out.trans (chk2_c hf)); have HPS := Lib.hid (show ∀ W, Below w.heap.size w W → Calls Tryz.prog 68 #[.slice ao x.ls.length cap] W fun e w' => e = .returned (.int .i64 (sumL x.ls)) ∧ Below W.heap.size W w' from fun W hW => psum_any x.ls _ W (H.out.step hW) hl hf); obtain ⟨n0, -⟩ := hw; have c5 : wr.cell? ⟨w.heap.size, 5, none⟩ = some (.slice ao x.ls.length cap) := by simp [World.cell?, n0]
    have c6 : wr.cell? ⟨w.heap.size, 6, none⟩ = some (.int .i64 x.c) := by simp [World.cell?, n0]
    clear n0; obtain ⟨s, hs⟩ : ∃ s, sumL x.ls = s := ⟨_, rfl⟩; rw [hs] at HPS HC; clear hs hf; have hcc : x.c < 0 ∨ (0 ≤ x.c ∧ 1125899906842624 < x.c) ∨ (0 ≤ x.c ∧ x.c ≤ 1125899906842624) := by omega
    rcases hcc with t5 | ⟨t5, t6⟩ | ⟨t5, t6⟩
    · have HE := Lib.hid (HC.out.trans (if_pos (.inl t5)))
      go_wp2; go_ret; exact ⟨ret_int HE.out, HW.out.2⟩
    · have HE := Lib.hid (HC.out.trans (if_pos (.inr t6)))
      go_wp2; go_ret; exact ⟨ret_int HE.out, HW.out.2⟩
    have HC := Lib.hid (HC.out.trans (if_neg (by omega))); have b5 := cell_regrown c5; have b6 := cell_regrown c6; have HP' := Lib.hid (show ∀ W, Below wr.heap.size wr W → Calls Tryz.prog 68 #[.slice ao x.ls.length cap] W fun e w' => e = .returned (.int .i64 s) ∧ Below W.heap.size W w' from fun W hW => HPS.out W (bl_trans HW.out.2 hW)); have cA := fun d os => Calls.regrown_of (HP'.out _ (below_regrown wr d os))
    go_upto_region 15 with (fail)
    clear c5 c6; refine wp_region_quiet_below (by kernel_rfl) (by kernel_rfl) ?_
    (repeat (quiet_step (first | (go_at_call 68; with_reducible exact cA _ _))))
    refine wpQuiet_nil ?_; intro _ hw'; obtain ⟨⟨dq, osq⟩, hw''⟩ := hw'; subst hw''; have HQ := Lib.hid (bl_trans HW.out.2 (below_regrown wr dq osq)); clear b5 b6 cA
    by_cases t7 : x.c = s
    · have HE := Lib.hid (HC.out.trans (if_neg (by simpa using t7)))
      have t8 : (x.c != s) = false := by simpa using t7
      clear t7; go_wp2; go_ret; exact ⟨ret_int HE.out, HQ.out⟩
    · have HE := Lib.hid (HC.out.trans (if_pos t7))
      have t8 : (x.c != s) = true := by simpa using t7
      clear t7; go_wp2; go_ret; exact ⟨ret_int HE.out, HQ.out⟩
end Go.Proofs.YtifcelebfagjbaaGreatDoor
namespace Go.Tw.Po
open Go.RowKit Go.Tw Go.Sort Go.Tw.Ord
def okN (s : Int) : Int := if fitsM s = true then s else 0
def errN (s : Int) : Int := if fitsM s = true then 0 else 13
theorem okN_t {s : Int} (h : fitsM s = true) : okN s = s := if_pos h
theorem errN_t {s : Int} (h : fitsM s = true) : errN s = 0 := if_pos h
theorem okN_f {s : Int} (h : fitsM s = false) : okN s = 0 := if_neg (by rw [h]; decide)
theorem errN_f {s : Int} (h : fitsM s = false) : errN s = 13 := if_neg (by rw [h]; decide)
end Go.Tw.Po
namespace Go.Proofs.YtifcelebfagjbaaGreatDoor
open Go.RowKit Go.Tw Go.Tw.Ord Go.Tw.Po Go.Sort
theorem ChgW.cells {w wr : World} {x : Chg} {v : Value} (h : ChgW w x v wr) : wr.cell? ⟨w.heap.size, 0, none⟩ = some (.string x.key) ∧ wr.cell? ⟨w.heap.size, 1, none⟩ = some (.string x.veh) ∧ wr.cell? ⟨w.heap.size, 2, none⟩ = some (.string x.sys) ∧ wr.cell? ⟨w.heap.size, 3, none⟩ = some (.int .i64 x.cls) ∧ wr.cell? ⟨w.heap.size, 4, none⟩ = some (.int .i64 x.tm) ∧ wr.cell? ⟨w.heap.size, 5, none⟩ = some v ∧ wr.cell? ⟨w.heap.size, 6, none⟩ = some (.int .i64 x.c) := by
 obtain ⟨n0, -⟩ := h
 refine ⟨?_, ?_, ?_, ?_, ?_, ?_, ?_⟩ <;> simp [World.cell?, n0]
set_option maxHeartbeats 1000000 in
theorem lines_any (l : List SI) (v : Value) (w : World) (h : SlIs tSI (· < w.heap.size) w v l) (hl : l.length ≤ 1000) (hf : Fit l) :
  Calls Tryz.prog 72 #[v] w fun e w' => e = .returned (.tuple #[.int .i64 (okN (sumL l)), .int .i64 (errN (sumL l))]) ∧ w = w' := by
 obtain ⟨ao, cap, b, off, rfl, h1, h2, ho⟩ := si_open h; unfold maxLen at h2; have HF := Lib.hid hf; clear h hf
 go_enter Tryz.func72, Tryz.ntmps72
 go_wp2
 go_loopg [4, 5] l.length (fun g s i wr => ∃ (k : Nat) (n : Int), k + g = l.length ∧ i = .int .i64 k ∧ s = .int .i64 n ∧ Hid (sumL (l.take k) = n) ∧ -1125899906842624 * (k : Int) ≤ n ∧ n ≤ 1125899906842624 * (k : Int) ∧ w = wr)
 case atStart => exact ⟨0, 0, by omega, rfl, rfl, Lib.hid rfl, by omega, by omega, rfl⟩
 case round =>
  obtain ⟨k, n, hk, rfl, rfl, HN, n1, n2, rfl⟩ := hrel
  by_cases hlt : k < l.length
  · obtain ⟨rfl, -, hbw, -, c0, c1⟩ := ho w (SameOn.refl _ _) k hlt
    have hfx := HF.out l[k] (List.getElem_mem hlt); have hx := fitsM_iff.1 hfx; have HX := Lib.hid (show ∀ W, Calls Tryz.prog 71 #[.int .i64 l[k].n] W fun e w' => e = .returned (.bool true) ∧ W = w' from fun W => by rw [← hfx]; exact mFitsR_any _ W); have HS := Lib.hid (sumL_take hlt); have k0 : (0 : Int) ≤ (k : Int) := by omega
    have k1 : (k : Int) < (l.length : Int) := by omega
    clear hfx; generalize l[k] = r at *; obtain ⟨xs, xn⟩ := r; simp only at *; have hw : IntKind.i64.wrap (n + xn) = n + xn := wrap_in (by omega) (by omega); clear ho
    go_wp2_with (go_at_call 71; refine (HX.out _).mono ?_; rintro e w1 ⟨rfl, rfl⟩)
    go_roundg (l.length - (k + 1))
    case measure => omega
    case rel => exact ⟨k + 1, n + xn, by omega, by go_num, by go_num, Lib.hid (by rw [HS.out, HN.out]), by omega, by omega, rfl⟩
  · have hkd : decide ((k : Int) < (l.length : Int)) = false := by simp; omega
    obtain rfl : k = l.length := by omega
    have hn : sumL l = n := by have := HN.out; rwa [List.take_length] at this
    have HNN := Lib.hid hn; clear ho hn HN; obtain ⟨r, hr⟩ : ∃ r, fitsM n = r := ⟨_, rfl⟩; have HX := Lib.hid (show ∀ W, Calls Tryz.prog 71 #[.int .i64 n] W fun e w' => e = .returned (.bool r) ∧ W = w' from fun W => by rw [← hr]; exact mFitsR_any _ W); have HR := Lib.hid hr; clear hr
    cases r with
    | true =>
     have HA := Lib.hid (okN_t HR.out); have HE := Lib.hid (errN_t HR.out)
     go_wp2_with (go_at_call 71; refine (HX.out _).mono ?_; rintro e w1 ⟨rfl, rfl⟩)
     go_ret2; exact ⟨by rw [HNN.out, HA.out, HE.out]; rfl, rfl⟩
    | false =>
     have HA := Lib.hid (okN_f HR.out); have HE := Lib.hid (errN_f HR.out)
     go_wp2_with (go_at_call 71; refine (HX.out _).mono ?_; rintro e w1 ⟨rfl, rfl⟩)
     go_ret2; exact ⟨by rw [HNN.out, HA.out, HE.out]; rfl, rfl⟩
set_option maxRecDepth 100000 in
set_option maxHeartbeats 2000000 in
theorem pcheckR_any (x : Chg) (vx : Value) (w : World) (hx : ChgOk x) (h : SlIs tSI (· < w.heap.size) w vx x.ls) (hl : x.ls.length ≤ 1000) :
  Calls Tryz.prog 36 #[.agg #[.string x.key, .string x.veh, .string x.sys, .int .i64 x.cls, .int .i64 x.tm, vx, .int .i64 x.c]] w fun e w' => e = .returned (.int .i64 (chkC x)) ∧ Below w.heap.size w w' := by
 have H := Lib.hid h; obtain ⟨ao, cap, b, off, rfl, h1, h2, ho⟩ := si_open h; have HB := Lib.hid (ChgW.start w x (.slice ao x.ls.length cap)); obtain ⟨k1, k2, k3, k4, k5, k6⟩ := hx; unfold maxLen at h2 k1 k2 k3; unfold i64ok at k4 k5 k6; have HO := Lib.hid ho; clear h ho
 by_cases e1 : x.key.size = 0
 · have HE := Lib.hid (chk_6 (x := x) (.inl e1))
   have q1 := emp_yes e1; clear e1
   go_enter Tryz.func36, Tryz.ntmps36
   go_wp2; go_ret; exact ⟨ret_int HE.out, HB.out.2⟩
 have q1 := emp_no e1
 by_cases e2 : x.veh.size = 0
 · have HE := Lib.hid (chk_6 (x := x) (.inr e2))
   have q2 := emp_yes e2; clear e1 e2
   go_enter Tryz.func36, Tryz.ntmps36
   go_wp2; go_ret; exact ⟨ret_int HE.out, HB.out.2⟩
 have q2 := emp_no e2; have HS := Lib.hid (chk_s e1 e2); clear e1 e2; have hcl : x.cls < 0 ∨ (0 ≤ x.cls ∧ 9 < x.cls) ∨ (0 ≤ x.cls ∧ x.cls ≤ 9) := by omega
 rcases hcl with t1 | ⟨t1, t2⟩ | ⟨t1, t2⟩
 · have HE := Lib.hid (HS.out.trans (if_pos (.inl t1)))
   go_enter Tryz.func36, Tryz.ntmps36
   go_wp2; go_ret; exact ⟨ret_int HE.out, HB.out.2⟩
 · have HE := Lib.hid (HS.out.trans (if_pos (.inr t2)))
   go_enter Tryz.func36, Tryz.ntmps36
   go_wp2; go_ret; exact ⟨ret_int HE.out, HB.out.2⟩
 have HS := Lib.hid (HS.out.trans (if_neg (by omega))); have htm : x.tm < 0 ∨ (0 ≤ x.tm ∧ 68719476736 < x.tm) ∨ (0 ≤ x.tm ∧ x.tm ≤ 68719476736) := by omega
 rcases htm with t3 | ⟨t3, t4⟩ | ⟨t3, t4⟩
 · have HE := Lib.hid (HS.out.trans (if_pos (.inl t3)))
   go_enter Tryz.func36, Tryz.ntmps36
   go_wp2; go_ret; exact ⟨ret_int HE.out, HB.out.2⟩
 · have HE := Lib.hid (HS.out.trans (if_pos (.inr t4)))
   go_enter Tryz.func36, Tryz.ntmps36
   go_wp2; go_ret; exact ⟨ret_int HE.out, HB.out.2⟩
 have HS := Lib.hid (HS.out.trans (if_neg (by omega)))
 go_enter Tryz.func36, Tryz.ntmps36
 go_wp2
 go_loopg [3] x.ls.length (fun g i wr => ∃ (k : Nat), k + g = x.ls.length ∧ i = .int .i64 k ∧ Hid (Fit (x.ls.take k)) ∧ ChgW w x (.slice ao x.ls.length cap) wr)
 case atStart => exact ⟨0, by omega, rfl, Lib.hid (fun y hy => by simp at hy), HB.out⟩
 case round =>
  obtain ⟨k, hk, rfl, HF, hw⟩ := hrel; have HW := Lib.hid hw; obtain ⟨-, -, -, -, -, c5, c6⟩ := hw.cells
  by_cases hlt : k < x.ls.length
  · obtain ⟨rfl, -, hbw, -, c0, c1⟩ := HO.out wr (.of_below hw.2) k hlt
    have k0 : (0 : Int) ≤ (k : Int) := by omega
    have k1 : (k : Int) < (x.ls.length : Int) := by omega
    have HX := Lib.hid (show ∀ W, Calls Tryz.prog 71 #[.int .i64 x.ls[k].n] W fun e w' => e = .returned (.bool (fitsM x.ls[k].n)) ∧ W = w' from fun W => mFitsR_any _ W)
    have HN := Lib.hid (show ∀ r, fitsM x.ls[k].n = r → if r = true then Fit (x.ls.take (k + 1)) else chk2 x = 13 from fun r hr => by
     cases r
     · simp only [Bool.false_eq_true, if_false]
       exact chk2_13 (all_no hlt hr)
     · rw [if_pos rfl, List.take_succ_eq_append_getElem hlt]
       intro y hy
       rcases List.mem_append.1 hy with hy | hy
       · exact HF.out y hy
       · rw [List.mem_singleton] at hy
         rw [hy]; exact hr)
    obtain ⟨r, hr⟩ : ∃ r, fitsM x.ls[k].n = r := ⟨_, rfl⟩; have HM := HN.out r hr; rw [hr] at HX; clear hw hr HN; generalize x.ls[k].n = xn at *; generalize x.ls[k].s = xs at *
    cases r with
    | false =>
     have HE := Lib.hid (HS.out.trans (by simpa using HM)); clear HM
     go_wp2_with (go_at_call 71; refine (HX.out _).mono ?_; rintro e w1 ⟨rfl, rfl⟩)
     go_ret; exact ⟨ret_int HE.out, HW.out.2⟩
    | true =>
     have HM' := Lib.hid (show Fit (x.ls.take (k + 1)) by simpa using HM); clear HM
     go_wp2_with (go_at_call 71; refine (HX.out _).mono ?_; rintro e w1 ⟨rfl, rfl⟩)
     go_roundg (x.ls.length - (k + 1))
     case measure => omega
     case rel => exact ⟨k + 1, by omega, by go_num, HM', HW.out⟩
  · have hkd : decide ((k : Int) < (x.ls.length : Int)) = false := by simp; omega
    obtain rfl : k = x.ls.length := by omega
    have hf : Fit x.ls := by have := HF.out; rwa [List.take_length] at this
    have HC := Lib.hid (HS.out.trans (chk2_c hf)); have HP := Lib.hid (lines_any x.ls _ wr (H.out.keep (fun j hj => Nat.lt_of_lt_of_le hj hw.2.size) (.of_below hw.2)) hl hf); obtain ⟨s, hs⟩ : ∃ s, sumL x.ls = s := ⟨_, rfl⟩; rw [hs] at HP HC; clear hs hf hw; have hcc : x.c < 0 ∨ (0 ≤ x.c ∧ 1125899906842624 < x.c) ∨ (0 ≤ x.c ∧ x.c ≤ 1125899906842624) := by omega
    rcases hcc with t5 | ⟨t5, t6⟩ | ⟨t5, t6⟩
    · have HE := Lib.hid (HC.out.trans (if_pos (.inl t5)))
      go_wp2; go_ret; exact ⟨ret_int HE.out, HW.out.2⟩
    · have HE := Lib.hid (HC.out.trans (if_pos (.inr t6)))
      go_wp2; go_ret; exact ⟨ret_int HE.out, HW.out.2⟩
    have HC := Lib.hid (HC.out.trans (if_neg (by omega)))
    by_cases t7 : x.c = s
    · have HE := Lib.hid (HC.out.trans (if_neg (by simpa using t7)))
      have hfs : fitsM s = true := fitsM_yes (by omega) (by omega); rw [okN_t hfs, errN_t hfs, ← t7] at HP; clear t7 hfs
      go_wp2_with (go_at_call 72; refine HP.out.mono ?_; rintro e w1 ⟨rfl, rfl⟩)
      go_ret; exact ⟨ret_int HE.out, HW.out.2⟩
    · have HE := Lib.hid (HC.out.trans (if_pos t7))
      cases hfs : fitsM s with
      | true =>
       rw [okN_t hfs, errN_t hfs] at HP; have t8 : (s != x.c) = true := by simpa using fun e => t7 e.symm
       clear t7 hfs
       go_wp2_with (go_at_call 72; refine HP.out.mono ?_; rintro e w1 ⟨rfl, rfl⟩)
       go_ret; exact ⟨ret_int HE.out, HW.out.2⟩
      | false =>
       rw [okN_f hfs, errN_f hfs] at HP; clear t7 hfs
       go_wp2_with (go_at_call 72; refine HP.out.mono ?_; rintro e w1 ⟨rfl, rfl⟩)
       go_ret; exact ⟨ret_int HE.out, HW.out.2⟩
end Go.Proofs.YtifcelebfagjbaaGreatDoor
