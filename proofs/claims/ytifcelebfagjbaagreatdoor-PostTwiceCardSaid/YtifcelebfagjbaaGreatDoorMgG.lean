/-
  Layer proofs, merged: PoA4 PoRa PoRb PoM PoLF ApN.
-/
import Derived.Test.YtifcelebfagjbaaGreatDoorMgF
import Derived.Test.YtifcelebfagjbaaGreatDoorMgD
import Derived.Maps.RangeWalk
import Derived.Maps.Ext
import Derived.Sort.KeysCollected
import Derived.Test.YtifcelebfagjbaaGreatDoorMgA
namespace Go.Tw.Po
open Go.RowKit Go.Tw
structure CfgA (A : Array Value) (va : Value) : Prop where
 size : A.size = 25
 acc : A[17]? = some va
theorem owner_short {c : List Acc} (h : CfOk c) {vh : ByteArray} {t : Int} {nm : ByteArray} (he : ownerO c vh t = some nm) : nm.size ≤ 12 := by
 unfold ownerO at he
 cases hf : c.find? fun a => a.ow.any (owB vh t) with
 | none => rw [hf] at he; cases he
 | some a =>
  rw [hf] at he; obtain rfl := Option.some.inj he; exact h a (List.mem_of_find?_eq_some hf)
end Go.Tw.Po
namespace Go.Proofs.YtifcelebfagjbaaGreatDoor
open Go.RowKit Go.Tw Go.Tw.Ord Go.Tw.Po Go.Sort
set_option maxRecDepth 100000 in
set_option maxHeartbeats 2000000 in
theorem accounts_any (c : List Acc) (A : Array Value) (va : Value) (x : Chg) (xa : Option Addr) (xn xc : Nat) (w : World) (hA : CfgA A va) (hc : SlIs (tAcc 138) (· < w.heap.size) w va c) (hk : CfOk c) (h1 : x.veh.size ≤ 30) (h2 : x.sys.size ≤ 30) :
  Calls Tryz.prog 70 #[.agg A, .agg #[.string x.key, .string x.veh, .string x.sys, .int .i64 x.cls, .int .i64 x.tm, .slice xa xn xc, .int .i64 x.c]] w fun e w' => e = .returned (.tuple #[.string (debC c x), .string (creC x)]) ∧ Below w.heap.size w w' := by
 have b1 := bl_alloc (bl_alloc (Below.refl w.heap.size w) (.cells A 46)) (.cells #[.string x.key, .string x.veh, .string x.sys, .int .i64 x.cls, .int .i64 x.tm, .slice xa xn xc, .int .i64 x.c] 49); have n0 := alloc2_0 w (.cells A 46) (.cells #[.string x.key, .string x.veh, .string x.sys, .int .i64 x.cls, .int .i64 x.tm, .slice xa xn xc, .int .i64 x.c] 49); have n1 := alloc2_1 w (.cells A 46) (.cells #[.string x.key, .string x.veh, .string x.sys, .int .i64 x.cls, .int .i64 x.tm, .slice xa xn xc, .int .i64 x.c] 49); have HOW := Lib.hid (owner_any c va x.veh x.tm _ (hc.step b1)); obtain ⟨ao, cap, _, _, rfl, -⟩ := hc; have c17 := cell_of_row _ _ 17 _ _ _ n0; rw [hA.acc] at c17; have HB1 := Lib.hid b1; have HN1 := Lib.hid n1; have HS := Lib.hid (fun nm he => owner_short (nm := nm) hk (vh := x.veh) (t := x.tm) he); have HD := Lib.hid (show debC c x = match ownerO c x.veh x.tm with | some nm => sAcc ++ nm | none => sCase ++ x.veh from rfl); have HC := Lib.hid (show creC x = sRev ++ orS [x.sys, sDash] from rfl); have HOR := Lib.hid (show ∀ (g : Nat) (w : World), w.heap[g]? = some (.cells #[.string x.sys, .string ⟨#[45]⟩] 9 (0, 0)) → Calls Tryz.prog 109 #[.slice (some ⟨g, 0, none⟩) 2 2] w fun e w' => e = .returned (.string (orS [x.sys, sDash])) ∧ w' = w from fun g w h => Or_str [x.sys, sDash] g w h (by simp))
 have hos : (orS [x.sys, sDash]).size ≤ 30 := by
  unfold orS orS orS
  split
  · show (if sDash = es then es else sDash).size ≤ 30
    split <;> decide
  · exact h2
 have z4 : ¬ (9223372036854775807 < 8 + (orS [x.sys, sDash]).size) := by omega
 generalize orS [x.sys, sDash] = os at *; generalize debC c x = dc at *; generalize creC x = cc at *; generalize ownerO c x.veh x.tm = ow at *; clear b1 n0 n1 hA hk; have z1 : ¬ (9223372036854775807 < 5 + x.veh.size) := by omega
 cases ow with
 | none =>
  go_enter Tryz.func70, Tryz.ntmps70
  go_wp2_with (fail)
  with_reducible refine HOW.out.mono ?_
  rintro e w2 ⟨rfl, hb⟩; have HB2 := Lib.hid (bl_trans HB1.out hb); have n1 := (hb.block (w.heap.size + 1) (by simp)).trans HN1.out; obtain ⟨-, d1, d2, -, d4, -⟩ := blk7 n1; clear hb n1 c17 HOW HN1
  go_wp2_with (go_at_call 109
               refine (HOR.out _ _ (by exact heap_alloc_new _ _)).mono ?_
               rintro e w3 ⟨rfl, rfl⟩)
  go_ret2; exact ⟨by rw [HD.out, HC.out]; rfl, bl_alloc HB2.out _⟩
 | some nm =>
  have z2 := HS.out nm rfl; have z3 : ¬ (9223372036854775807 < 8 + nm.size) := by omega
  go_enter Tryz.func70, Tryz.ntmps70
  go_wp2_with (fail)
  with_reducible refine HOW.out.mono ?_
  rintro e w2 ⟨rfl, hb⟩; have HB2 := Lib.hid (bl_trans HB1.out hb); have n1 := (hb.block (w.heap.size + 1) (by simp)).trans HN1.out; obtain ⟨-, d1, d2, -, d4, -⟩ := blk7 n1; clear hb n1 c17 HOW HN1
  go_wp2_with (go_at_call 109
               refine (HOR.out _ _ (by exact heap_alloc_new _ _)).mono ?_
               rintro e w3 ⟨rfl, rfl⟩)
  go_ret2; exact ⟨by rw [HD.out, HC.out]; rfl, bl_alloc HB2.out _⟩
end Go.Proofs.YtifcelebfagjbaaGreatDoor
namespace Go.Proofs.YtifcelebfagjbaaGreatDoor
open Go.RowKit Go.Tw Go.Tw.Ord Go.Tw.Po Go.Sort
theorem isSpan_any (a b : Int) (w : World) : Calls Tryz.prog 133 #[.agg #[.int .i64 a, .int .i64 b]] w fun e w' => e = .returned (.bool (validI a b)) ∧ Below w.heap.size w w' := by
 have HB := Lib.hid (bl_alloc (Below.refl w.heap.size w) (.cells #[.int .i64 a, .int .i64 b] 136))
 by_cases h1 : 0 ≤ a
 case neg =>
  have HE := Lib.hid (show validI a b = false by unfold validI; rw [decide_eq_false h1]; rfl); have k1 : decide (0 ≤ a) = false := decide_eq_false h1; clear h1
  go_enter Tryz.func133, Tryz.ntmps133
  go_wp2; go_ret; exact ⟨ret_bool HE.out, HB.out⟩
 by_cases h2 : a < b
 case neg =>
  have HE := Lib.hid (show validI a b = false by unfold validI; rw [decide_eq_false h2]; simp); have k2 : decide (a < b) = false := decide_eq_false h2; clear h2
  go_enter Tryz.func133, Tryz.ntmps133
  go_wp2; go_ret; exact ⟨ret_bool HE.out, HB.out⟩
 have HE := Lib.hid (show validI a b = decide (b ≤ 68719476736) by unfold validI; rw [decide_eq_true h1, decide_eq_true h2]; rfl); obtain ⟨q, hq⟩ : ∃ q, decide (b ≤ 68719476736) = q := ⟨_, rfl⟩; rw [hq] at HE
 cases q
 all_goals
  go_enter Tryz.func133, Tryz.ntmps133
  go_wp2; go_ret; exact ⟨ret_bool HE.out, HB.out⟩
set_option maxRecDepth 100000 in
set_option maxHeartbeats 4000000 in
theorem owns_any (l : List Ow) (v : Value) (vh : ByteArray) (t : Int) (w : World) (h : SlIs tOw (· < w.heap.size) w v l) :
  Calls Tryz.prog 110 #[v, .string vh, .int .i64 t] w fun e w' => e = .returned (.int .i64 (ownI l vh t)) ∧ Below w.heap.size w w' := by
 obtain ⟨ao, cap, bi, off, rfl, hl, hm, ho⟩ := ow_open h; unfold maxLen at hm; have HO := Lib.hid ho; clear h ho
 go_enter Tryz.func110, Tryz.ntmps110
 go_wp2
 go_loopg [7] l.length (fun g i wr => ∃ k : Nat, k + g = l.length ∧ i = .int .i64 k ∧ Hid (∀ j (hj : j < l.length), j < k → owB vh t l[j] = false) ∧ Below w.heap.size w wr)
 case atStart => exact ⟨0, by omega, rfl, Lib.hid (fun j _ h => by omega), Below.refl _ _⟩
 case round =>
  obtain ⟨k, hk, rfl, HT, hb1⟩ := hrel; have HB := Lib.hid hb1
  by_cases hlt : k < l.length
  · obtain ⟨rfl, -, hbi, -, c0, c1, c2, c3⟩ := HO.out wr (.of_below hb1) k hlt
    have k0 : (0 : Int) ≤ (k : Int) := by omega
    have k1 : (k : Int) < (l.length : Int) := by omega
    have HG1 := Lib.hid (show ∀ j (hj : j < l.length), j = k → l[j] = l[k] by rintro j hj rfl; rfl); generalize l[k] = y at *; obtain ⟨yt, yp, yf, yo⟩ := y; simp only at c0 c1 c2 c3; have HSP := Lib.hid (isSpan_any yf yo wr); obtain ⟨q, hq⟩ : ∃ q, validI yf yo = q := ⟨_, rfl⟩; have HOB := Lib.hid (show owB vh t ⟨yt, yp, yf, yo⟩ = (!decide (vh.size = 0) && (decide (yt = vh) || decide (yp = vh)) && (q && decide (yf ≤ t) && decide (t < yo))) by rw [← hq]; rfl); rw [hq] at HSP; have hbw : bi < wr.heap.size := Nat.lt_of_lt_of_le hbi hb1.size; clear hb1 hq
    by_cases hz : vh.size = 0
    · have HE := Lib.hid (show owB vh t ⟨yt, yp, yf, yo⟩ = false by rw [HOB.out, decide_eq_true hz]; rfl)
      have he := emp_yes hz; clear hz
      go_wp2_with (go_at_call 133; with_reducible refine HSP.out.mono ?_; rintro e w2 ⟨rfl, hb2⟩; have e2 := (hb2.cell (p := ⟨bi, off + k * 4 + 2, none⟩) hbw).trans c2; have e3 := (hb2.cell (p := ⟨bi, off + k * 4 + 3, none⟩) hbw).trans c3; have HB2 := Lib.hid (bl_trans HB.out hb2); clear hb2)
      go_roundg (l.length - (k + 1))
      case measure => omega
      case rel => exact ⟨k + 1, by omega, by go_num, Lib.hid (fun j hj h => by
       by_cases e : j = k
       · rw [HG1.out j hj e]; exact HE.out
       · exact HT.out j hj (by omega)), HB.out⟩
    have he := emp_no hz; have HZ := Lib.hid (decide_eq_false hz); clear hz; obtain ⟨a1, ha1⟩ : ∃ a, (yt.toList == vh.toList) = a := ⟨_, rfl⟩; have HA1 := Lib.hid (show decide (yt = vh) = a1 by rw [← ha1, eq_str]); obtain ⟨a2, ha2⟩ : ∃ a, (yp.toList == vh.toList) = a := ⟨_, rfl⟩; have HA2 := Lib.hid (show decide (yp = vh) = a2 by rw [← ha2, eq_str]); obtain ⟨a3, ha3⟩ : ∃ a, decide (yf ≤ t) = a := ⟨_, rfl⟩; obtain ⟨a4, ha4⟩ : ∃ a, decide (t < yo) = a := ⟨_, rfl⟩; have HOB2 := Lib.hid (show owB vh t ⟨yt, yp, yf, yo⟩ = ((a1 || a2) && (q && a3 && a4)) by rw [HOB.out, HA1.out, HA2.out, HZ.out, ha3, ha4]; rfl); clear HOB
    cases a1
    all_goals cases a2
    all_goals cases q
    all_goals cases a3
    all_goals cases a4
    all_goals
     have HE := HOB2; simp only [Bool.or_false, Bool.or_true, Bool.and_true, Bool.and_false, Bool.or_self, Bool.and_self] at HE; clear HOB2
    all_goals go_wp2_with (go_at_call 133; with_reducible refine HSP.out.mono ?_; rintro e w2 ⟨rfl, hb2⟩; have e2 := (hb2.cell (p := ⟨bi, off + k * 4 + 2, none⟩) hbw).trans c2; have e3 := (hb2.cell (p := ⟨bi, off + k * 4 + 3, none⟩) hbw).trans c3; have HB2 := Lib.hid (bl_trans HB.out hb2); clear hb2)
    all_goals first
     | (go_ret
        exact ⟨ret_int (ownI_some hlt (by rw [HG1.out k hlt rfl]; exact HE.out) HT.out), HB2.out⟩)
     | (go_roundg (l.length - (k + 1))
        case measure => omega
        case rel => exact ⟨k + 1, by omega, by go_num, Lib.hid (fun j hj h => by
         by_cases e : j = k
         · rw [HG1.out j hj e]; exact HE.out
         · exact HT.out j hj (by omega)), by first | exact HB2.out | exact HB.out⟩)
  · go_wp2
    go_ret; exact ⟨ret_int (ownI_none fun j hj => HT.out j hj (by omega)), HB.out⟩
end Go.Proofs.YtifcelebfagjbaaGreatDoor
namespace Go.Proofs.YtifcelebfagjbaaGreatDoor
open Go.RowKit Go.Tw Go.Tw.Ord Go.Tw.Po Go.Sort
set_option maxRecDepth 100000 in
set_option maxHeartbeats 2000000 in
theorem ownerR_any (l : List Acc) (v : Value) (vh : ByteArray) (t : Int) (w : World) (h : SlIs (tAcc 138) (· < w.heap.size) w v l) :
  Calls Tryz.prog 73 #[v, .string vh, .int .i64 t] w fun e w' => e = .returned (.tuple #[.string ((ownerO l vh t).getD ByteArray.empty), .bool (ownerO l vh t).isSome]) ∧ Below w.heap.size w w' := by
 obtain ⟨ao, cap, bi, off, rfl, hl, hm, ho⟩ := acc_open h; unfold maxLen at hm; have HO := Lib.hid ho; clear h ho
 go_enter Tryz.func73, Tryz.ntmps73
 go_wp2
 go_loopg [8] l.length (fun g i wr => ∃ k : Nat, k + g = l.length ∧ i = .int .i64 k ∧ Hid (∀ j (hj : j < l.length), j < k → l[j].ow.any (owB vh t) = false) ∧ Below w.heap.size w wr)
 case atStart => exact ⟨0, by omega, rfl, Lib.hid (fun j _ h => by omega), Below.refl _ _⟩
 case round =>
  obtain ⟨k, hk, rfl, HT, hb1⟩ := hrel; have HB := Lib.hid hb1
  by_cases hlt : k < l.length
  · obtain ⟨rfl, -, hbi, -, hv, hsl, c0, c1, c2, c3, c4, c5, c6, c7, c8⟩ := HO.out wr (.of_below hb1) k hlt
    have k0 : (0 : Int) ≤ (k : Int) := by omega
    have k1 : (k : Int) < (l.length : Int) := by omega
    have hbw : bi < wr.heap.size := Nat.lt_of_lt_of_le hbi hb1.size; have HG1 := Lib.hid (show ∀ j (hj : j < l.length), j = k → l[j] = l[k] by rintro j hj rfl; rfl); generalize l[k] = y at *; obtain ⟨yn, ya, yp, yo, y1, y2, y3, y4, ye⟩ := y; simp only at hsl c0 c1 c2 c3 c4 c5 c6 c7 c8; have hsl1 : SlIs tOw (· < wr.heap.size) wr hv yo := hsl.keep (fun j (hj : j < w.heap.size) => Nat.lt_of_lt_of_le hj hb1.size) (SameOn.refl _ _); have HOW := Lib.hid (owns_any yo hv vh t _ hsl1); have HX := Lib.hid (ownI_any yo vh t)
    obtain ⟨hva, hvn, hvc, hve⟩ : ∃ a n c, hv = .slice a n c := by
     obtain ⟨a, c, _, _, e, -⟩ := hsl; exact ⟨a, _, c, e⟩
    subst hve; obtain ⟨z, hz⟩ : ∃ z, ownI yo vh t = z := ⟨_, rfl⟩; rw [hz] at HOW HX; clear hsl hsl1 hb1 hz
    rcases HX.out with ⟨q1, q2⟩ | ⟨q1, q2⟩
    · have HQ := Lib.hid q1
      have HE := Lib.hid (owner_some (vh := vh) (t := t) hlt (by rw [HG1.out k hlt rfl]; exact HQ.out) HT.out); have HE2 := Lib.hid (show l[k].nm = yn by rw [HG1.out k hlt rfl]); clear q1 HX
      go_wp2_with (fail)
      with_reducible refine HOW.out.mono ?_
      rintro e w2 ⟨rfl, hb2⟩; have HB2 := Lib.hid (bl_trans HB.out hb2); have d0 : w2.cell? ⟨bi, off + k * 9, none⟩ = some (.string yn) := (hb2.cell (p := ⟨bi, off + k * 9, none⟩) hbw).trans c0; clear hb2 HOW; go_wp2; go_ret2; exact ⟨by rw [HE.out, HE2.out]; rfl, HB2.out⟩
    · subst q2
      have HQ := Lib.hid q1; clear q1 HX
      go_wp2_with (fail)
      with_reducible refine HOW.out.mono ?_
      rintro e w2 ⟨rfl, hb2⟩; have HB2 := Lib.hid (bl_trans HB.out hb2); clear hb2; go_wp2
      go_roundg (l.length - (k + 1))
      case measure => omega
      case rel => exact ⟨k + 1, by omega, by go_num, Lib.hid (fun j hj h => by
       by_cases e : j = k
       · rw [HG1.out j hj e]; exact HQ.out
       · exact HT.out j hj (by omega)), HB2.out⟩
  · have HE := Lib.hid (owner_none (vh := vh) (t := t) fun j hj => HT.out j hj (by omega))
    go_wp2; go_ret2; exact ⟨by rw [HE.out]; rfl, HB.out⟩
theorem ret_str' {a b : ByteArray} (h : a = b) : (Ending.returned (.string a)) = .returned (.string b) := by rw [h]
set_option maxRecDepth 100000 in
set_option maxHeartbeats 2000000 in
theorem debit_any (c : List Acc) (A : Array Value) (va : Value) (x : Chg) (xa : Option Addr) (xn xc : Nat) (w : World) (hA : CfgA A va) (hc : SlIs (tAcc 138) (· < w.heap.size) w va c) (hk : CfOk c) (h1 : x.veh.size ≤ 30) :
  Calls Tryz.prog 38 #[.agg A, .agg #[.string x.key, .string x.veh, .string x.sys, .int .i64 x.cls, .int .i64 x.tm, .slice xa xn xc, .int .i64 x.c]] w fun e w' => e = .returned (.string (debC c x)) ∧ Below w.heap.size w w' := by
 have b1 := bl_alloc (bl_alloc (Below.refl w.heap.size w) (.cells A 46)) (.cells #[.string x.key, .string x.veh, .string x.sys, .int .i64 x.cls, .int .i64 x.tm, .slice xa xn xc, .int .i64 x.c] 49); have n0 := alloc2_0 w (.cells A 46) (.cells #[.string x.key, .string x.veh, .string x.sys, .int .i64 x.cls, .int .i64 x.tm, .slice xa xn xc, .int .i64 x.c] 49); have n1 := alloc2_1 w (.cells A 46) (.cells #[.string x.key, .string x.veh, .string x.sys, .int .i64 x.cls, .int .i64 x.tm, .slice xa xn xc, .int .i64 x.c] 49); have HOW := Lib.hid (ownerR_any c va x.veh x.tm _ (hc.step b1)); obtain ⟨ao, cap, _, _, rfl, -⟩ := hc; have c17 := cell_of_row _ _ 17 _ _ _ n0; rw [hA.acc] at c17; have HB1 := Lib.hid b1; have HN1 := Lib.hid n1; have HS := Lib.hid (fun nm he => owner_short (nm := nm) hk (vh := x.veh) (t := x.tm) he); have HD := Lib.hid (show debC c x = match ownerO c x.veh x.tm with | some nm => sAcc ++ nm | none => sCase ++ x.veh from rfl); generalize debC c x = dc at *; generalize ownerO c x.veh x.tm = ow at *; clear b1 n0 n1 hA hk; have z1 : ¬ (9223372036854775807 < 5 + x.veh.size) := by omega
 cases ow with
 | none =>
  go_enter Tryz.func38, Tryz.ntmps38
  go_wp2_with (fail)
  with_reducible refine HOW.out.mono ?_
  rintro e w2 ⟨rfl, hb⟩; have HB2 := Lib.hid (bl_trans HB1.out hb); have n1 := (hb.block (w.heap.size + 1) (by simp)).trans HN1.out; obtain ⟨-, d1, d2, -, d4, -⟩ := blk7 n1; clear hb n1 c17 HOW HN1; go_wp2; go_ret; exact ⟨ret_str' (by rw [HD.out]; rfl), HB2.out⟩
 | some nm =>
  have z2 := HS.out nm rfl; have z3 : ¬ (9223372036854775807 < 8 + nm.size) := by omega
  go_enter Tryz.func38, Tryz.ntmps38
  go_wp2_with (fail)
  with_reducible refine HOW.out.mono ?_
  rintro e w2 ⟨rfl, hb⟩; have HB2 := Lib.hid (bl_trans HB1.out hb); clear hb c17 HOW HN1; go_wp2; go_ret; exact ⟨ret_str' (by rw [HD.out]; rfl), HB2.out⟩
set_option maxRecDepth 100000 in
theorem credit_any (x : Chg) (v : Value) (w : World) (h2 : x.sys.size ≤ 30) :
  Calls Tryz.prog 39 #[.agg #[.string x.key, .string x.veh, .string x.sys, .int .i64 x.cls, .int .i64 x.tm, v, .int .i64 x.c]] w fun e w' => e = .returned (.string (creC x)) ∧ Below w.heap.size w w' := by
 have HB := Lib.hid (bl_alloc (Below.refl w.heap.size w) (.cells #[.string x.key, .string x.veh, .string x.sys, .int .i64 x.cls, .int .i64 x.tm, v, .int .i64 x.c] 49))
 have hos : orS [x.sys, sDash] = if x.sys = es then sDash else x.sys := by
  unfold orS orS orS
  split
  · show (if sDash = es then es else sDash) = sDash
    rw [if_neg (by decide)]
  · rfl
 have HC := Lib.hid (show creC x = sRev ++ (if x.sys = es then sDash else x.sys) by unfold creC; rw [hos]); have z : ¬ (9223372036854775807 < 8 + x.sys.size) := by omega
 clear hos
 by_cases he : x.sys = es
 · have h0 : x.sys.toList.isEmpty = true := by rw [emp_iff]; simpa using he
   have HR := Lib.hid (HC.out.trans (by rw [if_pos he])); clear he
   go_enter Tryz.func39, Tryz.ntmps39
   go_wp2; go_ret; exact ⟨ret_str' (by rw [HR.out]; decide), HB.out⟩
 · have h0 : x.sys.toList.isEmpty = false := by rw [emp_iff]; simpa using he
   have HR := Lib.hid (HC.out.trans (by rw [if_neg he])); clear he
   go_enter Tryz.func39, Tryz.ntmps39
   go_wp2; go_ret; exact ⟨ret_str' (by rw [HR.out]; rfl), HB.out⟩
end Go.Proofs.YtifcelebfagjbaaGreatDoor
namespace Go.Tw.Po
open Go.RowKit Go.Tw Go.Sort Go.Tw.Ord
theorem isKey (x : List UInt8) : WideAt.IsKeyLit (.string x) := trivial
structure Holds (D : DataW Unit) (A : ByteArray → Option Int) : Prop where
 has : ∀ s, Maps.has D (.string (kb s)) = (A s).isSome
 val : ∀ s c, A s = some c → ∀ zd, D.atKey (.string (kb s)) zd = .lit (.int .i64 c)
theorem Holds.nil : Holds (.map []) (fun _ => none) := ⟨fun _ => rfl, fun _ _ h => by cases h⟩
theorem Holds.put {D : DataW Unit} {A : ByteArray → Option Int} (h : Holds D A) (hm : Maps.IsMap D) (s : ByteArray) (c : Int) : Holds (D.put (.string (kb s)) (.lit (.int .i64 c))) (fun y => if y = s then some c else A y) := by
 refine ⟨fun y => ?_, fun y d hy zd => ?_⟩
 · by_cases e : y = s
   · subst e; rw [if_pos rfl, Maps.has_put_same hm (isKey _)]; rfl
   · rw [if_neg e, Maps.has_put_other (by intro q; injection q with q; exact e (kb_inj q)), h.has]
 · by_cases e : y = s
   · subst e; rw [if_pos rfl] at hy; injection hy with hy; subst hy; rw [Maps.atKey_put_same hm (isKey _)]
   · rw [if_neg e] at hy; rw [Maps.atKey_put_other (by intro q; injection q with q; exact e (kb_inj q)), h.val y d hy]
theorem Holds.ext {D : DataW Unit} {A B : ByteArray → Option Int} (h : Holds D A) (he : ∀ s, A s = B s) : Holds D B := by
 have : A = B := funext he; subst this; exact h
theorem Holds.get {D : DataW Unit} {A : ByteArray → Option Int} (h : Holds D A) (s : ByteArray) : D.atKey (.string (kb s)) (.lit (.int .i64 0)) = .lit (.int .i64 ((A s).getD 0)) := by
 cases e : A s with
 | none => rw [Maps.atKey_of_not_has (by rw [h.has, e]; rfl)]; rfl
 | some c => rw [h.val s c e]; rfl
def posL (l : List Ent) : List SI := l.flatMap Ent.ps
def bm (ps : List SI) (a : ByteArray) : Option Int := if (ps.any fun p => decide (p.s = a)) = true then some (sumL (ps.filter fun p => decide (p.s = a))) else none
theorem bm_get (ps : List SI) (a : ByteArray) : (bm ps a).getD 0 = sumL (ps.filter fun p => decide (p.s = a)) := by
 unfold bm
 split
 · rfl
 · rename_i h
   rw [List.filter_eq_nil_iff.2]
   · rfl
   · intro p hp hq
     exact h (List.any_eq_true.2 ⟨p, hp, hq⟩)
theorem bm_snoc (ps : List SI) (p : SI) (a : ByteArray) : bm (ps ++ [p]) a = if a = p.s then some ((bm ps p.s).getD 0 + p.n) else bm ps a := by
 by_cases h : a = p.s
 · subst h
   rw [if_pos rfl, bm_get]; unfold bm; rw [if_pos (by simp), List.filter_append, List.filter_cons, if_pos (by simp), List.filter_nil, sumL_snoc]
 · rw [if_neg h]
   unfold bm; have h' : ¬ p.s = a := fun e => h e.symm
   have e1 : (ps ++ [p]).filter (fun p => decide (p.s = a)) = ps.filter fun p => decide (p.s = a) := by
    rw [List.filter_append, List.filter_cons, if_neg (by simp [h']), List.filter_nil, List.append_nil]
   have e2 : (ps ++ [p]).any (fun p => decide (p.s = a)) = ps.any fun p => decide (p.s = a) := by
    rw [List.any_append]; simp [h']
   rw [e1, e2]
theorem sumL_app (a b : List SI) : sumL (a ++ b) = sumL a + sumL b := by unfold sumL; simp
theorem bal_flat (a : ByteArray) (l : List Ent) : balL a l = sumL ((posL l).filter fun p => decide (p.s = a)) := by
 unfold balL posL
 induction l with
 | nil => rfl
 | cons e l ih =>
  rw [List.map_cons, List.sum_cons, ih, List.flatMap_cons, List.filter_append, sumL_app]
  rfl
theorem bal_bound {l : List SI} (h : Fit l) (a : ByteArray) : -1125899906842624 * (l.length : Int) ≤ sumL (l.filter fun p => decide (p.s = a)) ∧ sumL (l.filter fun p => decide (p.s = a)) ≤ 1125899906842624 * (l.length : Int) := by
 have hf : Fit (l.filter fun p => decide (p.s = a)) := fun x hx => h x (List.mem_filter.1 hx).1
 have := fit_sum hf; have hl := List.length_filter_le (fun p : SI => decide (p.s = a)) l
 omega
structure LOk (N : Nat) (l : List Ent) : Prop where
 len : (posL l).length ≤ N
 fit : Fit (posL l)
theorem pos_len {l : List Ent} (h : ∀ e ∈ l, e.ps.length ≤ 4) : (posL l).length ≤ 4 * l.length := by
 unfold posL
 induction l with
 | nil => simp
 | cons e l ih =>
  rw [List.flatMap_cons, List.length_append, List.length_cons]; have h1 := h e List.mem_cons_self; have h2 := ih fun x hx => h x (List.mem_cons_of_mem _ hx)
  omega
theorem LOk.of {l : List Ent} {N : Nat} (h : ∀ e ∈ l, EOk e) (hl : l.length ≤ N) : LOk (4 * N) l := by
 refine ⟨?_, fun p hp => ?_⟩
 · have := pos_len fun e he => (h e he).ps
   omega
 · obtain ⟨e, he, hq⟩ := List.mem_flatMap.1 hp
   exact (h e he).fit p hq
theorem pos_take {l : List Ent} {k : Nat} (h : k < l.length) : posL (l.take (k + 1)) = posL (l.take k) ++ l[k].ps := by
 unfold posL; rw [List.take_succ_eq_append_getElem h, List.flatMap_append]; simp
theorem pos_split {l : List Ent} {k : Nat} (h : k < l.length) : posL l = posL (l.take k) ++ (l[k].ps ++ posL (l.drop (k + 1))) := by
 conv => lhs; rw [← List.take_append_drop k l, List.drop_eq_getElem_cons h]
 unfold posL; rw [List.flatMap_append, List.flatMap_cons]
end Go.Tw.Po
namespace Go.Proofs.YtifcelebfagjbaaGreatDoor
open Go.RowKit Go.Tw Go.Tw.Ord Go.Tw.Po Go.Sort Go.Maps
theorem i64_wf {n : Int} (h : i64ok n) : (Lit.int .i64 n).wf = true := by
 unfold i64ok at h
 simpa [Lit.wf, IntKind.min, IntKind.max, IntKind.signed, IntKind.bits] using h
def AmtMap (w : World) (m n : Nat) (D : DataW Unit) : Prop := w.ownsMap Tryz.prog 9 (plainElem Tryz.prog 3) m n D
theorem keyedS : Keyed Tryz.prog 9 := string_keyed Tryz.underlying9
theorem own_below {H : Type} {P : Program} {k : TypeId} {R : Value → Option (DataW H × List MemPlace)} {w w' : World} {b n : Nat} {D : DataW H} (h : w.ownsMap P k R b n D) (hb : Below w.heap.size w w') : w'.ownsMap P k R b n D := by
 obtain ⟨es, clock, h1, h2⟩ := h; exact ⟨es, clock, Go.Tw.Below.at_old hb h1, h2⟩
set_option maxRecDepth 100000 in
set_option maxHeartbeats 4000000 in
theorem balances_any (l : List Ent) (v : Value) (w : World) (h : SlIs (tEnt 101) (· < w.heap.size) w v l) (hk : LOk 4004 l) :
  Calls Tryz.prog 105 #[v] w fun e w' => (∃ m D, e = .returned (.map (some m)) ∧ AmtMap w' m 4004 D ∧ Holds D (bm (posL l)) ∧ w.heap.size ≤ m) ∧ Below w.heap.size w w' := by
 obtain ⟨ao, cap, bi, off, rfl, hl, hm, ho⟩ := ent_open h; unfold maxLen at hm; have HO := Lib.hid ho; have HF := Lib.hid hk; have hm0 : AmtMap (w.alloc (.map #[] 0)) w.heap.size 0 (.map []) := World.ownsMap_made (H := Unit) w Tryz.prog 9 (plainElem Tryz.prog 3); have HM0 := Lib.hid hm0; clear h ho hk hm0; have hmm := @run_makeMap Tryz.prog
 go_enter Tryz.func105, Tryz.ntmps105
 go_wp2; clear hmm
 go_loopg [11] l.length (fun g i wr => ∃ (k : Nat) (D : DataW Unit), k + g = l.length ∧ i = .int .i64 k ∧ AmtMap wr w.heap.size (posL (l.take k)).length D ∧ Hid (Holds D (bm (posL (l.take k)))) ∧ Below w.heap.size w wr)
 case atStart => exact ⟨0, .map [], by omega, rfl, HM0.out, Lib.hid Holds.nil, bl_alloc (Below.refl _ _) _⟩
 case round =>
  obtain ⟨k, D, hk, rfl, hmp, HD, hbl⟩ := hrel; have HBO := Lib.hid hbl
  by_cases hlt : k < l.length
  · obtain ⟨rfl, -, hbi, hok, hv, hsl, d0, d1, d2⟩ := HO.out wr (.of_below hbl) k hlt
    have k0 : (0 : Int) ≤ (k : Int) := by omega
    have k1 : (k : Int) < (l.length : Int) := by omega
    have HPT := Lib.hid (pos_take hlt); have HPS := Lib.hid (pos_split hlt); generalize l[k] = y at *; have HSL := Lib.hid (si_open hsl); obtain ⟨a2, c2, b2, o2, hv2, h21, h22, ho2⟩ := HSL.out; subst hv2; unfold maxLen at h22; have HO2 := Lib.hid ho2; have HMA := Lib.hid (World.ownsMap.alloc hmp (.cells #[.string y.key, .int .i64 y.tm, .slice a2 y.ps.length c2] 56)); have HBA := Lib.hid (bl_alloc hbl (.cells #[.string y.key, .int .i64 y.tm, .slice a2 y.ps.length c2] 56)); have hmw : w.heap.size < wr.heap.size := hmp.lt; obtain ⟨q, hq⟩ : ∃ q, posL (l.take k) = q := ⟨_, rfl⟩; rw [hq] at HMA HD HPT HPS
    have HL := Lib.hid (show q.length + y.ps.length ≤ 4004 ∧ Fit (q ++ y.ps) from by
     have h1 := HF.out.len; have h2 := HF.out.fit; rw [HPS.out] at h1 h2; rw [List.length_append, List.length_append] at h1
     exact ⟨by omega, fun x hx => h2 x (by
      rw [← List.append_assoc]; exact List.mem_append_left _ hx)⟩)
    clear hbl hmp hq HSL ho2; obtain ⟨wo, rfl⟩ : ∃ wo : World, wo = wr := ⟨_, rfl⟩; go_wp2
    go_loopg [18] y.ps.length (fun g i wr => ∃ (j : Nat) (D : DataW Unit), j + g = y.ps.length ∧ i = .int .i64 j ∧ AmtMap wr w.heap.size (q.length + j) D ∧ Hid (Holds D (bm (q ++ y.ps.take j))) ∧ Below w.heap.size w wr)
    case atStart => exact ⟨0, D, by omega, rfl, HMA.out, by rw [List.take_zero, List.append_nil]; exact HD, HBA.out⟩
    case round =>
     obtain ⟨j, D, hj, rfl, hmp, HD, hbl⟩ := hrel; have HB := Lib.hid hbl
     by_cases hlt2 : j < y.ps.length
     · have hsame : SameOn (· < w.heap.size) wo wr := fun b hb => (hbl.block b hb).trans (HBO.out.block b hb).symm
       obtain ⟨rfl, -, hb2, hop, e0, e1⟩ := HO2.out wr hsame j hlt2; have j0 : (0 : Int) ≤ (j : Int) := by omega
       have j1 : (j : Int) < (y.ps.length : Int) := by omega
       have HPJ := Lib.hid (show q ++ y.ps.take (j + 1) = (q ++ y.ps.take j) ++ [y.ps[j]] by rw [List.take_succ_eq_append_getElem hlt2, List.append_assoc])
       have hb0 := bal_bound (l := q ++ y.ps.take j) (fun x hx => HL.out.2 x (by
        rcases List.mem_append.1 hx with hx | hx
        · exact List.mem_append_left _ hx
        · exact List.mem_append_right _ (List.mem_of_mem_take hx))) y.ps[j].s
       have hbl2 : (q ++ y.ps.take j).length ≤ 4004 := by rw [List.length_append, List.length_take]; have := HL.out.1; omega
       have hfp := fitsM_iff.1 (HL.out.2 y.ps[j] (List.mem_append_right _ (List.getElem_mem hlt2))); have HG := Lib.hid (HD.out.get y.ps[j].s); rw [bm_get] at HG; have HST := Lib.hid (fun a => (congrArg (bm · a) HPJ.out).trans (bm_snoc (q ++ y.ps.take j) y.ps[j] a)); have hqj : q.length + j < maxLen := by have := HL.out.1; unfold maxLen; omega
       obtain ⟨c, hr1, hat1, hw1⟩ := World.ownsMap.lookup_int (World.ownsMap.alloc hmp (.cells #[.string y.ps[j].s, .int .i64 y.ps[j].n] 101)) keyedS Tryz.underlying175 Tryz.underlying3 (by kernel_rfl) (Go.WideMaps.keyOf_string_mk Tryz.underlying9 hop.s)
       have hcv : c = sumL ((q ++ y.ps.take j).filter fun p => decide (p.s = y.ps[j].s)) := by
        have := hat1.symm.trans HG.out
        injection this with this
        injection this
       have HBM := Lib.hid (bm_get (q ++ y.ps.take j) y.ps[j].s); rw [← hcv] at HBM hb0; have HOP := Lib.hid hop.s; have HMP := Lib.hid hmp; generalize y.ps[j] = p at *; obtain ⟨xs, xn⟩ := p; simp only at *; have hwr : IntKind.i64.wrap (c + xn) = c + xn := wrap_in (by omega) (by omega); have hci : i64ok (c + xn) := by unfold i64ok; omega
       have hmw2 : w.heap.size < wr.heap.size := hmp.lt; clear hb0 hat1 hw1 hcv HG hmp hop
       go_wp2_with (
        at_mapUpdate
        refine wpList_mapUpdate_own _ rfl _ _ _ 175 rfl 9 3 keyedS Tryz.underlying175 _ w.heap.size _ _ rfl (HMP.out.alloc _) hqj _ _ (.string (kb xs)) rfl rfl (Go.WideMaps.keyOf_string_mk Tryz.underlying9 HOP.out) (.lit (.int .i64 (c + xn))) [] (plainElem_int Tryz.underlying3 (i64_wf hci)) ?_; intro w3 hown3 hg3
        go_frame)
       go_roundg (y.ps.length - (j + 1))
       case measure => omega
       case rel =>
        refine ⟨j + 1, _, by omega, by go_num, hown3, Lib.hid ((HD.out.put HMP.out.isMap xs (c + xn)).ext fun s => ?_), ?_⟩
        · rw [HST.out s, HBM.out]
        · exact (bl_alloc HB.out _).grown hg3 (by have := HB.out.size; simp; omega) (fun j e => by injection e with e; omega)
     · obtain rfl : j = y.ps.length := by omega
       have hjd : decide ((y.ps.length : Int) < (y.ps.length : Int)) = false := by simp
       rw [List.take_length] at HD; have HMP := Lib.hid hmp; clear hmp hbl; go_wp2
       go_roundg (l.length - (k + 1))
       case measure => omega
       case rel => exact ⟨k + 1, D, by omega, by go_num, by rw [HPT.out, List.length_append]; exact HMP.out, by rw [HPT.out]; exact HD, HB.out⟩
  · obtain rfl : k = l.length := by omega
    have hkd : decide ((l.length : Int) < (l.length : Int)) = false := by simp
    rw [List.take_length] at hmp HD; have HMP := Lib.hid hmp; clear hmp hbl hlt hk; go_wp2; go_ret; exact ⟨⟨_, D, rfl, HMP.out.mono HF.out.len, HD.out, Nat.le_refl _⟩, HBO.out⟩
end Go.Proofs.YtifcelebfagjbaaGreatDoor
namespace Go.Tw.Po
open Go.RowKit Go.Tw Go.Sort Go.Tw.Ord
def zeroE : Ent := ⟨ByteArray.empty, 0, []⟩
def fndE (l : List Ent) (s : ByteArray) : Option Ent := l.find? fun x => decide (x.key = s)
theorem fndE_some {l : List Ent} {s : ByteArray} {k : Nat} (hk : k < l.length) (h : l[k].key = s) (hb : ∀ j (hj : j < l.length), j < k → l[j].key ≠ s) : fndE l s = some l[k] := by
 unfold fndE; rw [List.find?_eq_some_iff_getElem]; exact ⟨by simpa using h, k, hk, rfl, fun j hj => by simpa using hb j (by omega) hj⟩
theorem fndE_none {l : List Ent} {s : ByteArray} (h : ∀ j (hj : j < l.length), l[j].key ≠ s) : fndE l s = none := by
 unfold fndE; rw [List.find?_eq_none]; intro x hx; obtain ⟨j, hj, rfl⟩ := List.getElem_of_mem hx
 simpa using h j hj
end Go.Tw.Po
namespace Go.Proofs.YtifcelebfagjbaaGreatDoor
open Go.RowKit Go.Tw Go.Tw.Ord Go.Tw.Po Go.Sort
def LW (w : World) (a : Value) (wr : World) : Prop := wr.heap[w.heap.size]? = some (.cells #[a] 68 (0, 0)) ∧ wr.heap[w.heap.size + 1]? = some (.cells #[.string ByteArray.empty, .int .i64 0, .slice none 0 0] 56 (0, 0)) ∧ Below w.heap.size w wr
theorem LW.start (w : World) (a : Value) : LW w a ((w.alloc (.cells #[a] 68)).alloc (.cells #[.string ByteArray.empty, .int .i64 0, .slice none 0 0] 56)) := ⟨heap_alloc2_old w _ _, heap_alloc2_new w _ _, bl_alloc (bl_alloc (Below.refl _ _) _) _⟩
theorem LW.step {w wr w' : World} {a : Value} (h : LW w a wr) (hb : Below wr.heap.size wr w') : LW w a w' := ⟨(hb.block _ (lt_of_heap h.1)).trans h.1, (hb.block _ (lt_of_heap h.2.1)).trans h.2.1, bl_trans h.2.2 hb⟩
set_option maxRecDepth 100000 in
set_option maxHeartbeats 2000000 in
theorem lfind_any (l : List Ent) (v : Value) (id : ByteArray) (w : World) (h : SlIs (tEnt 101) (· < w.heap.size) w v l) (hps : ∀ e ∈ l, e.ps.length ≤ 1000000) :
  Calls Tryz.prog 104 #[.agg #[v], .string id] w fun e w' => (∃ xa xn xc, e = .returned (.tuple #[.agg #[.string ((fndE l id).getD zeroE).key, .int .i64 ((fndE l id).getD zeroE).tm, .slice xa xn xc], .bool (fndE l id).isSome])) ∧ Below w.heap.size w w' := by
 have HS := Lib.hid (LW.start w v); have HPS := Lib.hid hps; obtain ⟨ao, cap, b, off, rfl, h1, h2, ho⟩ := ent_open h; unfold maxLen at h2; have HO := Lib.hid ho; clear ho h hps
 go_enter Tryz.func104, Tryz.ntmps104
 go_wp2
 go_loopg [11] l.length (fun g i wr => ∃ k : Nat, k + g = l.length ∧ i = .int .i64 k ∧ Hid (∀ j (hj : j < l.length), j < k → l[j].key ≠ id) ∧ Hid (LW w (.slice ao l.length cap) wr))
 case atStart => exact ⟨0, by omega, rfl, Lib.hid (fun j _ h => by omega), HS⟩
 case round =>
  obtain ⟨k, hk, rfl, HT, HW1⟩ := hrel; clear HS; have hbw : Below w.heap.size w wr := HW1.out.2.2; obtain ⟨z0, z1, z2, zf⟩ := blk3 HW1.out.2.1; have l1 : w.heap.size + 1 < wr.heap.size := lt_of_heap HW1.out.2.1
  by_cases hlt : k < l.length
  · obtain ⟨rfl, -, hbi, -, hv, hsl, d0, d1, d2⟩ := HO.out wr (.of_below hbw) k hlt
    have hll := HPS.out _ (List.getElem_mem hlt)
    obtain ⟨hva, hvn, hvc, hve⟩ : ∃ a n c, hv = .slice a n c := by
     obtain ⟨a, c, _, _, e, -⟩ := hsl; exact ⟨a, _, c, e⟩
    subst hve; have k0 : (0 : Int) ≤ (k : Int) := by omega
    have k1 : (k : Int) < (l.length : Int) := by omega
    have HFS := Lib.hid (fun (hq : l[k].key = id) => fndE_some hlt hq HT.out); have HG1 := Lib.hid (show ∀ j (hj : j < l.length), j = k → l[j] = l[k] by rintro j hj rfl; rfl); generalize l[k] = y at *; have b1 := bl_alloc (Below.refl wr.heap.size wr) (.cells #[.string y.key, .int .i64 y.tm, .slice hva hvn hvc] 56); have hsl1 : SlIs tSI (· < wr.heap.size) wr (.slice hva hvn hvc) y.ps := hsl.keep (fun q (hq : q < w.heap.size) => Nat.lt_of_lt_of_le hq hbw.size) (SameOn.refl _ _); have HCL := Lib.hid (cloneE_any y _ _ (hsl1.step b1) hll); have HLS := Lib.hid (HW1.out.step b1); obtain ⟨q, hq⟩ : ∃ q, (y.key.toList == id.toList) = q := ⟨_, rfl⟩; have HQ := Lib.hid (show decide (y.key = id) = q by rw [← hq, eq_str]); clear hsl hsl1 b1
    cases q with
    | true =>
     have HE := Lib.hid (HFS.out (by simpa using HQ.out))
     go_wp2_with (fail)
     with_reducible refine HCL.out.mono ?_
     rintro e w2 ⟨h', rfl, hi2, hb2⟩; obtain ⟨ao3, cap3, rfl, -⟩ := hi2.form; have HL2 := Lib.hid (HLS.out.step hb2); obtain ⟨y0, y1, y2, yf⟩ := blk3 HL2.out.2.1; have l2 : w.heap.size + 1 < w2.heap.size := lt_of_heap HL2.out.2.1; have hbw2 : Below w.heap.size w w2 := HL2.out.2.2; have HBW2 := Lib.hid hbw2; clear hi2 hb2 HCL z0 z1 z2 zf hbw hbw2; go_wp2; rw [HE.out]; refine bodyPost_ret (v := .tuple #[.agg #[.string y.key, .int .i64 y.tm, .slice ao3 y.ps.length cap3], .bool true]) (by simp [results, Tryz.results104, go_sem, y0, y1, y2]) rfl ⟨⟨_, _, _, rfl⟩, ?_⟩
     (repeat (first | (with_reducible exact HBW2.out) | (with_reducible apply bl_drewN) | (with_reducible apply bl_alloc) | ((with_reducible refine bl_set ?_ _ ?_); rotate_left; focus (first | exact Nat.le_refl _ | (simp; done) | (simp; omega)))))
    | false =>
     go_wp2
     go_roundg (l.length - (k + 1))
     case measure => omega
     case rel => exact ⟨k + 1, by omega, by go_num, Lib.hid (fun j hj h => by
      by_cases e : j = k
      · rw [HG1.out j hj e]; simpa using HQ.out
      · exact HT.out j hj (by omega)), HLS⟩
  · have HE := Lib.hid (fndE_none (s := id) fun j hj => HT.out j hj (by omega))
    go_wp2; rw [HE.out]; refine bodyPost_ret (v := .tuple #[.agg #[.string ByteArray.empty, .int .i64 0, .slice none 0 0], .bool false]) (by simp [results, Tryz.results104, go_sem, z0, z1, z2]; rfl) rfl ⟨⟨_, _, _, rfl⟩, ?_⟩
    (repeat (first | (with_reducible exact hbw) | (with_reducible apply bl_drewN) | (with_reducible apply bl_alloc) | ((with_reducible refine bl_set ?_ _ ?_); rotate_left; focus (first | exact Nat.le_refl _ | (simp; done) | (simp; omega)))))
end Go.Proofs.YtifcelebfagjbaaGreatDoor
namespace Go.Tw
open Go.RowKit
variable {α : Type} {T : Ty α} {e : TypeId} {P : Program}
theorem wp_append_Lx {F : List Nat} {w : World} {v : Value} {l : List α} {o : Oper} {a : Act} {K : Act → World → Prop} {Q : Exit → Act → World → Prop} (s y : Operand) (t : TypeId)
  (ho : o.op = .call { callee := .builtin .append, args := #[s, y], argTypes := #[t, t] }) {e' : TypeId} {bytes : Nat} (hT : SlT P t e T.sz bytes) {cs : Array Value} {F1 : List Nat} {x : α} (hs : a.eval s = v) (hown : OwnL T e F w v l) (nd : F.Nodup)
  (hy : a.eval y = .slice (some ⟨w.heap.size, 0, none⟩) 1 1) (hx : T.own F1 w cs.toList x) (nd1 : F1.Nodup) (hd : ∀ b ∈ F1, b ∉ F)
  (hbytes : (l.length + 1) * bytes ≤ 140737488355328) (h63 : l.length + 1 ≤ maxLen)
  (h : ∀ v' w' F', OwnL T e F' w' v' (l ++ [x]) → F'.Nodup → (∀ b ∈ F', b ∈ F ∨ b ∈ F1 ∨ w.heap.size < b) → (w.alloc (.cells cs e')).grownBy w' v.ownBlock → K (a.put o.dst v') w') : o.wp P a (w.alloc (.cells cs e')) K Q := by
 obtain ⟨v', w', F', hr, h2, h3, h4, h5⟩ := run_append_L (P := P) (ty := o.type) (e' := e') hT hown nd hx nd1 hd hbytes h63; unfold Oper.wp execOp; simp only [ho, resolve, invoke, builtin, Sem.run_bind, Sem.run_pure, Result.andThen_ok, List.map_toArray, List.map_cons, List.map_nil, hs, hy, hr]; exact h v' w' F' h2 h3 h4 h5
theorem wp_append_new {w : World} {v : Value} {l : List α} {o : Oper} {a : Act} {K : Act → World → Prop} {Q : Exit → Act → World → Prop} (s y : Operand) (t : TypeId)
  (ho : o.op = .call { callee := .builtin .append, args := #[s, y], argTypes := #[t, t] }) {e' : TypeId} {bytes B : Nat} {w1 : World} (hT : SlT P t e T.sz bytes) {cs : Array Value} {x : α} (hs : a.eval s = v) (hown : NewL T e B w1 v l) (hb : Below w1.heap.size w1 w)
  (hy : a.eval y = .slice (some ⟨w.heap.size, 0, none⟩) 1 1) (hx : New T w1.heap.size w cs.toList x) (hbytes : (l.length + 1) * bytes ≤ 140737488355328) (h63 : l.length + 1 ≤ maxLen) (hB : B ≤ w1.heap.size)
  (h : ∀ v' w', NewL T e B w' v' (l ++ [x]) → Below B w w' → K (a.put o.dst v') w') : o.wp P a (w.alloc (.cells cs e')) K Q := by
 obtain ⟨F, h0, h2, h3⟩ := hown; have hF := h0.lt; have h1 : OwnL T e F w v l := h0.keep (fun b hb' => hb.block b (hF b hb')); obtain ⟨F1, x1, x2, x3⟩ := hx; have hsz := hb.size; refine wp_append_Lx s y t ho hT hs h1 h2 hy x1 x2 (fun b hb hb' => by have := x3 b hb; have := hF b hb'; omega) hbytes h63 fun v' w' F' g1 g2 g3 g4 => h v' w' ⟨F', g1, g2, fun b hb => ?_⟩ ?_
 · rcases g3 b hb with q | q | q
   · exact h3 b q
   · have := x3 b q; omega
   · omega
 · exact ((Below.refl _ _).alloc (by omega) _).trans (Below.of_grown g4 (by simp; omega) (fun k hk => h3 k (h1.blk k hk)))
end Go.Tw
