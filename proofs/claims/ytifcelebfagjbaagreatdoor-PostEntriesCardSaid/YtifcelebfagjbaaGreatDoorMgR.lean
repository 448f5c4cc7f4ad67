/-
  Layer 37 (post): the laws' example, computed in plain Lean.
-/
import Derived.Test.YtifcelebfagjbaaGreatDoorMgI
import Derived.Test.YtifcelebfagjbaaGreatDoorMgL
import Derived.Test.YtifcelebfagjbaaGreatDoorMgQ
import Derived.Test.YtifcelebfagjbaaGreatDoorMgJ
namespace Go.Tw.Po
open Go.RowKit Go.Tw Go.Sort Go.Tw.Ord Go.Proofs.YtifcelebfagjbaaGreatDoor
def kX : ByteArray := ⟨#[116, 58, 99, 49, 46, 53]⟩
def aX : ByteArray := ⟨#[99, 97, 115, 101, 58, 65, 66, 49, 50]⟩
def rX : ByteArray := ⟨#[114, 101, 118, 101, 110, 117, 101, 58, 109]⟩
def nX : ByteArray := ⟨#[97, 110, 110]⟩
def naX : ByteArray := ⟨#[97, 99, 99, 111, 117, 110, 116, 58, 97, 110, 110]⟩
def cX : Chg := ⟨kX, ⟨#[65, 66, 49, 50]⟩, ⟨#[109]⟩, 1, 100, [⟨⟨#[98, 97, 115, 101]⟩, 400⟩], 400⟩
def e0X : Ent := ⟨⟨#[116, 58, 99, 49, 46, 53, 35, 48]⟩, 100, [⟨aX, 400⟩, ⟨rX, -400⟩]⟩
def p0X : Ent := ⟨⟨#[112, 97, 121, 35, 48]⟩, 200, [⟨sCash, 50⟩, ⟨naX, -50⟩]⟩
def v0X : Ent := ⟨⟨#[116, 58, 99, 49, 46, 53, 35, 49]⟩, 300, [⟨aX, -400⟩, ⟨rX, 400⟩]⟩
theorem fld {s : ByteArray} (h : (decide (s.size ≠ 0) && s.data.toList.all fun c => decide (33 ≤ c.toNat) && decide (c.toNat ≤ 126)) = true) : fieldC s = true := by
  simp only [Bool.and_eq_true, decide_eq_true_eq, List.all_eq_true] at h
  refine field_yes ⟨h.1, fun i hi => ?_⟩
  have := h.2 s[i] (by
    show s.data[i] ∈ s.data.toList
    exact Array.getElem_mem_toList _)
  exact this
theorem chkX : chkC cX = 0 := by decide
theorem debX : debC [] cX = aX := by decide
theorem creX : creC cX = rX := by decide
theorem fmtd {i : Nat} (h : i < 10) : fmtS (i : Int) = ⟨#[UInt8.ofNat (48 + i)]⟩ := by
  unfold fmtS Lib.itoa
  rw [if_neg (by omega), Int.toNat_natCast, Lib.decDigits_one h]
  rfl
theorem key0 : keyC kX ((0 : Nat) : Int) = ⟨#[116, 58, 99, 49, 46, 53, 35, 48]⟩ := by unfold keyC; rw [fmtd (by decide)]; decide
theorem key1 : keyC kX ((1 : Nat) : Int) = ⟨#[116, 58, 99, 49, 46, 53, 35, 49]⟩ := by unfold keyC; rw [fmtd (by decide)]; decide
theorem key2 : keyC kX 2 = ⟨#[116, 58, 99, 49, 46, 53, 35, 50]⟩ := by unfold keyC; rw [show (2 : Int) = ((2 : Nat) : Int) from rfl, fmtd (by decide)]; decide
theorem keyp : keyC sPay ((0 : Nat) : Int) = ⟨#[112, 97, 121, 35, 48]⟩ := by unfold keyC; rw [fmtd (by decide)]; decide
theorem entX (s : ByteArray) (t : Int) (a b : ByteArray) (m n : Int) (h1 : fieldC s = true) (h2 : 0 ≤ t ∧ t ≤ 68719476736) (h3 : fieldC a = true) (h4 : fieldC b = true) (h5 : m ≠ 0 ∧ n ≠ 0) (h6 : fitsM m = true ∧ fitsM n = true) (h7 : m + n = 0) : entC ⟨s, t, [⟨a, m⟩, ⟨b, n⟩]⟩ = 0 := by
  rw [ent_s h1, if_neg (by simp only; omega), if_neg (by simp), if_neg (by simp)]
  have hp : orL ([(⟨a, m⟩ : SI), ⟨b, n⟩].map postE) = 0 := by
    rw [List.map_cons, List.map_cons, List.map_nil, postE_0 h3 h5.1 h6.1, postE_0 h4 h5.2 h6.2]
    rfl
  show postsC [⟨a, m⟩, ⟨b, n⟩] = 0
  rw [posts_sum hp, if_neg]
  show ¬ (sumL [⟨a, m⟩, ⟨b, n⟩] ≠ 0)
  simp [sumL, h7]
theorem fa : fieldC aX = true := fld (by decide)
theorem fr : fieldC rX = true := fld (by decide)
theorem fn : fieldC naX = true := fld (by decide)
theorem fc : fieldC sCash = true := fld (by decide)
theorem e0ok : entC e0X = 0 := entX _ _ _ _ _ _ (fld (by decide)) (by decide) fa fr (by decide) (by decide) (by decide)
theorem v0ok : entC v0X = 0 := entX _ _ _ _ _ _ (fld (by decide)) (by decide) fa fr (by decide) (by decide) (by decide)
theorem p0ok : entC p0X = 0 := entX _ _ _ _ _ _ (fld (by decide)) (by decide) fc fn (by decide) (by decide) (by decide)
theorem postX1 : postL [] e0X = ([e0X], 0) := by
  unfold postL
  rw [e0ok, if_neg (by simp), if_neg (by decide), if_pos (by decide)]; rfl
theorem postX2 : postL [e0X] p0X = ([e0X, p0X], 0) := by
  unfold postL
  rw [p0ok, if_neg (by simp), if_neg (by decide), if_pos (by decide)]; rfl
theorem postX3 : postL [e0X] v0X = ([e0X, v0X], 0) := by
  unfold postL
  rw [v0ok, if_neg (by simp), if_neg (by decide), if_pos (by decide)]; rfl
theorem moveX (n : Int) (_h : n ≠ 0) : moveP [] [] cX n = [⟨aX, n⟩, ⟨rX, -n⟩] := by
  unfold moveP
  rw [debX, creX, addP, addP, if_neg (show aX ≠ rX by decide), addP]
theorem cleanX (a b : ByteArray) (n : Int) (h : n ≠ 0) : cleanP [⟨a, n⟩, ⟨b, -n⟩] = [⟨a, n⟩, ⟨b, -n⟩] := by
  unfold cleanP
  rw [List.filter_cons, if_pos (by simpa using h), List.filter_cons, if_pos (by simpa using h), List.filter_nil]
theorem applyX : applyP [] ⟨[], []⟩ cX = (⟨[e0X], [cX]⟩, 0) := by
  unfold applyP
  rw [chkX, if_neg (by simp)]
  have h1 : enterL [] (keyC cX.key (verN [] cX.key)) cX.tm (postsA [] [] cX) = ([e0X], 0) := by
    have h2 : postsA [] [] cX = [⟨aX, 400⟩, ⟨rX, -400⟩] := moveX 400 (by decide)
    rw [h2]
    unfold enterL
    rw [cleanX aX rX 400 (by decide), if_neg (by simp)]
    exact (show postL [] ⟨keyC kX ((0 : Nat) : Int), 100, [⟨aX, 400⟩, ⟨rX, -400⟩]⟩ = _ from by rw [key0]; exact postX1)
  simp only [h1]
  rfl
theorem payX : payP ⟨[e0X], [cX]⟩ nX 50 200 = (⟨[e0X, p0X], [cX]⟩, 0) := by
  unfold payP
  have hn : nameC nX = true := name_yes (by
    refine ⟨by decide, by decide, fun i h => ?_⟩
    have h3 : i < 3 := h
    have : i = 0 ∨ i = 1 ∨ i = 2 := by omega
    rcases this with rfl | rfl | rfl
    · exact (show nb 0 (nX[0]'(by decide)) from by unfold nb; decide)
    · exact (show nb 1 (nX[1]'(by decide)) from by unfold nb; decide)
    · exact (show nb 2 (nX[2]'(by decide)) from by unfold nb; decide))
  rw [hn, if_neg (by decide), if_neg (by decide), if_neg (by decide)]
  have h1 : postL [e0X] ⟨keyC sPay (payN [e0X]), 200, [⟨sCash, 50⟩, ⟨sAcc ++ nX, -50⟩]⟩ = ([e0X, p0X], 0) := by
    have h2 : payN [e0X] = 0 := by decide
    rw [h2]
    exact (show postL [e0X] ⟨keyC sPay ((0 : Nat) : Int), 200, [⟨sCash, 50⟩, ⟨sAcc ++ nX, -50⟩]⟩ = _ from by rw [keyp]; exact postX2)
  simp only [h1]
  rfl
theorem voidX : voidP [] ⟨[e0X], [cX]⟩ kX 300 = (⟨[e0X, v0X], []⟩, 0) := by
  have hf : fndC [cX] kX = some cX := by decide
  have h1 : enterL [e0X] (keyC kX (verN [e0X] kX)) 300 (moveP [] [] cX (-cX.c)) = ([e0X, v0X], 0) := by
    rw [show moveP [] [] cX (-cX.c) = [⟨aX, -400⟩, ⟨rX, - -400⟩] from moveX (-400) (by decide)]
    unfold enterL
    rw [cleanX aX rX (-400) (by decide), if_neg (by simp)]
    have h2 : verN [e0X] kX = 1 := by decide
    rw [h2]
    exact (show postL [e0X] ⟨keyC kX ((1 : Nat) : Int), 300, [⟨aX, -400⟩, ⟨rX, - -400⟩]⟩ = _ from by rw [key1]; exact postX3)
  rw [vo_s (b := ⟨[e0X], [cX]⟩) hf (by decide) h1, if_neg (by simp)]
  rfl
theorem syncX : syncP [] ⟨[], []⟩ [cX] 300 = (⟨[e0X], [cX]⟩, 0) := by
  refine sy_ok (b1 := ⟨[e0X], [cX]⟩) (by simp [keysC]) ?_ ?_
  · have hs : sortC [cX] = [cX] := by
      have := sortL_perm (c := chgC) [cX]
      exact List.perm_singleton.1 this
    rw [hs, runA, applyX, if_neg (by simp), runA]
  · have hg : goneK [cX] [cX] = [] := by decide
    rw [hg, runV]
theorem entryX : entryP [] cX 100 2 = (⟨⟨#[116, 58, 99, 49, 46, 53, 35, 50]⟩, 100, [⟨aX, 300⟩, ⟨rX, -300⟩]⟩, 0) := by
  rw [ey_s chkX, if_neg (by decide), if_neg (by decide), if_neg (by decide)]
  rw [show cX.c - 100 = 300 from rfl, moveX 300 (by decide)]
  show (Ent.mk (keyC kX 2) 100 _, (0 : Int)) = _
  rw [key2]
theorem postedX : postedC [cX] kX = 400 := by decide
theorem postedY : postedC [] kX = 0 := by decide
theorem balX : balL naX [e0X, p0X] = -50 := by decide
theorem checkX : checkP ⟨[e0X, p0X], [cX]⟩ = 0 := by
  refine ck_0 ?_ ?_ ?_ ?_
  · show orL [entC e0X, entC p0X] = 0
    rw [e0ok, p0ok]; rfl
  · show [e0X.key, p0X.key].Nodup
    decide
  · show orL [chkC cX] = 0
    rw [chkX]; rfl
  · intro i h
    exact absurd h (by show ¬ i + 1 < 1; omega)
theorem checkY : checkP ⟨[], [zeroC]⟩ = 6 := by
  have h1 : orL ([zeroC].map chkC) = 6 := by decide
  have := ck_c (b := ⟨[], [zeroC]⟩) rfl (by simp [keysE]) (by simp only; rw [h1]; decide)
  rw [this]; exact h1
end Go.Tw.Po
/-
  Layer 37 (post): the reference's IsSpan, owns, Owner, Debit, Credit.
-/
namespace Go.Proofs.YtifcelebfagjbaaGreatDoor
open Go.RowKit Go.Tw Go.Tw.Ord Go.Tw.Po Go.Sort
theorem isSpan_any (a b : Int) (w : World) : Calls Tryz.prog 133 #[.agg #[.int .i64 a, .int .i64 b]] w fun e w' => e = .returned (.bool (validI a b)) ∧ Below w.heap.size w w' := by
  have HB := Lib.hid (bl_alloc (Below.refl w.heap.size w) (.cells #[.int .i64 a, .int .i64 b] 136))
  by_cases h1 : 0 ≤ a
  case neg =>
    have HE := Lib.hid (show validI a b = false by unfold validI; rw [decide_eq_false h1]; rfl)
    have k1 : decide (0 ≤ a) = false := decide_eq_false h1
    clear h1
    go_enter Tryz.func133, Tryz.ntmps133
    go_wp2
    go_ret
    exact ⟨ret_bool HE.out, HB.out⟩
  by_cases h2 : a < b
  case neg =>
    have HE := Lib.hid (show validI a b = false by unfold validI; rw [decide_eq_false h2]; simp)
    have k2 : decide (a < b) = false := decide_eq_false h2
    clear h2
    go_enter Tryz.func133, Tryz.ntmps133
    go_wp2
    go_ret
    exact ⟨ret_bool HE.out, HB.out⟩
  have HE := Lib.hid (show validI a b = decide (b ≤ 68719476736) by unfold validI; rw [decide_eq_true h1, decide_eq_true h2]; rfl)
  obtain ⟨q, hq⟩ : ∃ q, decide (b ≤ 68719476736) = q := ⟨_, rfl⟩
  rw [hq] at HE
  cases q
  all_goals
    go_enter Tryz.func133, Tryz.ntmps133
    go_wp2
    go_ret
    exact ⟨ret_bool HE.out, HB.out⟩

set_option maxRecDepth 100000 in
set_option maxHeartbeats 4000000 in
theorem owns_any (l : List Ow) (v : Value) (vh : ByteArray) (t : Int) (w : World) (h : SlIs tOw (· < w.heap.size) w v l) :
    Calls Tryz.prog 110 #[v, .string vh, .int .i64 t] w fun e w' => e = .returned (.int .i64 (ownI l vh t)) ∧ Below w.heap.size w w' := by
  obtain ⟨ao, cap, bi, off, rfl, hl, hm, ho⟩ := ow_open h
  unfold maxLen at hm
  have HO := Lib.hid ho
  clear h ho
  go_enter Tryz.func110, Tryz.ntmps110
  go_wp2
  go_loopg [7] l.length (fun g i wr => ∃ k : Nat, k + g = l.length ∧ i = .int .i64 k ∧ Hid (∀ j (hj : j < l.length), j < k → owB vh t l[j] = false) ∧ Below w.heap.size w wr)
  case atStart => exact ⟨0, by omega, rfl, Lib.hid (fun j _ h => by omega), Below.refl _ _⟩
  case round =>
    obtain ⟨k, hk, rfl, HT, hb1⟩ := hrel
    have HB := Lib.hid hb1
    by_cases hlt : k < l.length
    · obtain ⟨rfl, -, hbi, -, c0, c1, c2, c3⟩ := HO.out wr (.of_below hb1) k hlt
      have k0 : (0 : Int) ≤ (k : Int) := by omega
      have k1 : (k : Int) < (l.length : Int) := by omega
      have HG1 := Lib.hid (show ∀ j (hj : j < l.length), j = k → l[j] = l[k] by rintro j hj rfl; rfl)
      generalize l[k] = y at *
      obtain ⟨yt, yp, yf, yo⟩ := y
      simp only at c0 c1 c2 c3
      have HSP := Lib.hid (isSpan_any yf yo wr)
      obtain ⟨q, hq⟩ : ∃ q, validI yf yo = q := ⟨_, rfl⟩
      have HOB := Lib.hid (show owB vh t ⟨yt, yp, yf, yo⟩ = (!decide (vh.size = 0) && (decide (yt = vh) || decide (yp = vh)) && (q && decide (yf ≤ t) && decide (t < yo))) by rw [← hq]; rfl)
      rw [hq] at HSP
      have hbw : bi < wr.heap.size := Nat.lt_of_lt_of_le hbi hb1.size
      clear hb1 hq
      by_cases hz : vh.size = 0
      · have HE := Lib.hid (show owB vh t ⟨yt, yp, yf, yo⟩ = false by rw [HOB.out, decide_eq_true hz]; rfl)
        have he := emp_yes hz
        clear hz
        go_wp2_with (go_at_call 133; with_reducible refine HSP.out.mono ?_; rintro e w2 ⟨rfl, hb2⟩; have e2 := (hb2.cell (p := ⟨bi, off + k * 4 + 2, none⟩) hbw).trans c2; have e3 := (hb2.cell (p := ⟨bi, off + k * 4 + 3, none⟩) hbw).trans c3; have HB2 := Lib.hid (bl_trans HB.out hb2); clear hb2)
        go_roundg (l.length - (k + 1))
        case measure => omega
        case rel => exact ⟨k + 1, by omega, by go_num, Lib.hid (fun j hj h => by
          by_cases e : j = k
          · rw [HG1.out j hj e]; exact HE.out
          · exact HT.out j hj (by omega)), HB.out⟩
      have he := emp_no hz
      have HZ := Lib.hid (decide_eq_false hz)
      clear hz
      obtain ⟨a1, ha1⟩ : ∃ a, (yt.toList == vh.toList) = a := ⟨_, rfl⟩
      have HA1 := Lib.hid (show decide (yt = vh) = a1 by rw [← ha1, eq_str])
      obtain ⟨a2, ha2⟩ : ∃ a, (yp.toList == vh.toList) = a := ⟨_, rfl⟩
      have HA2 := Lib.hid (show decide (yp = vh) = a2 by rw [← ha2, eq_str])
      obtain ⟨a3, ha3⟩ : ∃ a, decide (yf ≤ t) = a := ⟨_, rfl⟩
      obtain ⟨a4, ha4⟩ : ∃ a, decide (t < yo) = a := ⟨_, rfl⟩
      have HOB2 := Lib.hid (show owB vh t ⟨yt, yp, yf, yo⟩ = ((a1 || a2) && (q && a3 && a4)) by rw [HOB.out, HA1.out, HA2.out, HZ.out, ha3, ha4]; rfl)
      clear HOB
      cases a1
      all_goals cases a2
      all_goals cases q
      all_goals cases a3
      all_goals cases a4
      all_goals
        have HE := HOB2
        simp only [Bool.or_false, Bool.or_true, Bool.and_true, Bool.and_false, Bool.or_self, Bool.and_self] at HE
        clear HOB2
      all_goals go_wp2_with (go_at_call 133; with_reducible refine HSP.out.mono ?_; rintro e w2 ⟨rfl, hb2⟩; have e2 := (hb2.cell (p := ⟨bi, off + k * 4 + 2, none⟩) hbw).trans c2; have e3 := (hb2.cell (p := ⟨bi, off + k * 4 + 3, none⟩) hbw).trans c3; have HB2 := Lib.hid (bl_trans HB.out hb2); clear hb2)
      all_goals first
        | (go_ret
           exact ⟨ret_int (ownI_some hlt (by rw [HG1.out k hlt rfl]; exact HE.out) HT.out), HB2.out⟩)
        | (go_roundg (l.length - (k + 1))
           case measure => omega
           case rel => exact ⟨k + 1, by omega, by go_num, Lib.hid (fun j hj h => by
             by_cases e : j = k
             · rw [HG1.out j hj e]; exact HE.out
             · exact HT.out j hj (by omega)), by first | exact HB2.out | exact HB.out⟩)
    · go_wp2
      go_ret
      exact ⟨ret_int (ownI_none fun j hj => HT.out j hj (by omega)), HB.out⟩
end Go.Proofs.YtifcelebfagjbaaGreatDoor
/-
  Layer 37 (post): the reference's Owner, Debit, Credit.
-/
namespace Go.Proofs.YtifcelebfagjbaaGreatDoor
open Go.RowKit Go.Tw Go.Tw.Ord Go.Tw.Po Go.Sort
set_option maxRecDepth 100000 in
set_option maxHeartbeats 2000000 in
theorem ownerR_any (l : List Acc) (v : Value) (vh : ByteArray) (t : Int) (w : World) (h : SlIs (tAcc 138) (· < w.heap.size) w v l) :
    Calls Tryz.prog 73 #[v, .string vh, .int .i64 t] w fun e w' => e = .returned (.tuple #[.string ((ownerO l vh t).getD ByteArray.empty), .bool (ownerO l vh t).isSome]) ∧ Below w.heap.size w w' := by
  obtain ⟨ao, cap, bi, off, rfl, hl, hm, ho⟩ := acc_open h
  unfold maxLen at hm
  have HO := Lib.hid ho
  clear h ho
  go_enter Tryz.func73, Tryz.ntmps73
  go_wp2
  go_loopg [8] l.length (fun g i wr => ∃ k : Nat, k + g = l.length ∧ i = .int .i64 k ∧ Hid (∀ j (hj : j < l.length), j < k → l[j].ow.any (owB vh t) = false) ∧ Below w.heap.size w wr)
  case atStart => exact ⟨0, by omega, rfl, Lib.hid (fun j _ h => by omega), Below.refl _ _⟩
  case round =>
    obtain ⟨k, hk, rfl, HT, hb1⟩ := hrel
    have HB := Lib.hid hb1
    by_cases hlt : k < l.length
    · obtain ⟨rfl, -, hbi, -, hv, hsl, c0, c1, c2, c3, c4, c5, c6, c7, c8⟩ := HO.out wr (.of_below hb1) k hlt
      have k0 : (0 : Int) ≤ (k : Int) := by omega
      have k1 : (k : Int) < (l.length : Int) := by omega
      have hbw : bi < wr.heap.size := Nat.lt_of_lt_of_le hbi hb1.size
      have HG1 := Lib.hid (show ∀ j (hj : j < l.length), j = k → l[j] = l[k] by rintro j hj rfl; rfl)
      generalize l[k] = y at *
      obtain ⟨yn, ya, yp, yo, y1, y2, y3, y4, ye⟩ := y
      simp only at hsl c0 c1 c2 c3 c4 c5 c6 c7 c8
      have hsl1 : SlIs tOw (· < wr.heap.size) wr hv yo := hsl.keep (fun j (hj : j < w.heap.size) => Nat.lt_of_lt_of_le hj hb1.size) (SameOn.refl _ _)
      have HOW := Lib.hid (owns_any yo hv vh t _ hsl1)
      have HX := Lib.hid (ownI_any yo vh t)
      obtain ⟨hva, hvn, hvc, hve⟩ : ∃ a n c, hv = .slice a n c := by
        obtain ⟨a, c, _, _, e, -⟩ := hsl
        exact ⟨a, _, c, e⟩
      subst hve
      obtain ⟨z, hz⟩ : ∃ z, ownI yo vh t = z := ⟨_, rfl⟩
      rw [hz] at HOW HX
      clear hsl hsl1 hb1 hz
      rcases HX.out with ⟨q1, q2⟩ | ⟨q1, q2⟩
      · have HQ := Lib.hid q1
        have HE := Lib.hid (owner_some (vh := vh) (t := t) hlt (by rw [HG1.out k hlt rfl]; exact HQ.out) HT.out)
        have HE2 := Lib.hid (show l[k].nm = yn by rw [HG1.out k hlt rfl])
        clear q1 HX
        go_wp2_with (fail)
        with_reducible refine HOW.out.mono ?_
        rintro e w2 ⟨rfl, hb2⟩
        have HB2 := Lib.hid (bl_trans HB.out hb2)
        have d0 : w2.cell? ⟨bi, off + k * 9, none⟩ = some (.string yn) := (hb2.cell (p := ⟨bi, off + k * 9, none⟩) hbw).trans c0
        clear hb2 HOW
        go_wp2
        go_ret2
        exact ⟨by rw [HE.out, HE2.out]; rfl, HB2.out⟩
      · subst q2
        have HQ := Lib.hid q1
        clear q1 HX
        go_wp2_with (fail)
        with_reducible refine HOW.out.mono ?_
        rintro e w2 ⟨rfl, hb2⟩
        have HB2 := Lib.hid (bl_trans HB.out hb2)
        clear hb2
        go_wp2
        go_roundg (l.length - (k + 1))
        case measure => omega
        case rel => exact ⟨k + 1, by omega, by go_num, Lib.hid (fun j hj h => by
          by_cases e : j = k
          · rw [HG1.out j hj e]; exact HQ.out
          · exact HT.out j hj (by omega)), HB2.out⟩
    · have HE := Lib.hid (owner_none (vh := vh) (t := t) fun j hj => HT.out j hj (by omega))
      go_wp2
      go_ret2
      exact ⟨by rw [HE.out]; rfl, HB.out⟩
theorem ret_str' {a b : ByteArray} (h : a = b) : (Ending.returned (.string a)) = .returned (.string b) := by rw [h]
set_option maxRecDepth 100000 in
set_option maxHeartbeats 2000000 in
theorem debit_any (c : List Acc) (A : Array Value) (va : Value) (x : Chg) (xa : Option Addr) (xn xc : Nat) (w : World) (hA : CfgA A va) (hc : SlIs (tAcc 138) (· < w.heap.size) w va c) (hk : CfOk c) (h1 : x.veh.size ≤ 30) :
    Calls Tryz.prog 38 #[.agg A, .agg #[.string x.key, .string x.veh, .string x.sys, .int .i64 x.cls, .int .i64 x.tm, .slice xa xn xc, .int .i64 x.c]] w fun e w' => e = .returned (.string (debC c x)) ∧ Below w.heap.size w w' := by
  have b1 := bl_alloc (bl_alloc (Below.refl w.heap.size w) (.cells A 46)) (.cells #[.string x.key, .string x.veh, .string x.sys, .int .i64 x.cls, .int .i64 x.tm, .slice xa xn xc, .int .i64 x.c] 49)
  have n0 := alloc2_0 w (.cells A 46) (.cells #[.string x.key, .string x.veh, .string x.sys, .int .i64 x.cls, .int .i64 x.tm, .slice xa xn xc, .int .i64 x.c] 49)
  have n1 := alloc2_1 w (.cells A 46) (.cells #[.string x.key, .string x.veh, .string x.sys, .int .i64 x.cls, .int .i64 x.tm, .slice xa xn xc, .int .i64 x.c] 49)
  have HOW := Lib.hid (ownerR_any c va x.veh x.tm _ (hc.step b1))
  obtain ⟨ao, cap, _, _, rfl, -⟩ := hc
  have c17 := cell_of_row _ _ 17 _ _ _ n0
  rw [hA.acc] at c17
  have HB1 := Lib.hid b1
  have HN1 := Lib.hid n1
  have HS := Lib.hid (fun nm he => owner_short (nm := nm) hk (vh := x.veh) (t := x.tm) he)
  have HD := Lib.hid (show debC c x = match ownerO c x.veh x.tm with | some nm => sAcc ++ nm | none => sCase ++ x.veh from rfl)
  generalize debC c x = dc at *
  generalize ownerO c x.veh x.tm = ow at *
  clear b1 n0 n1 hA hk
  have z1 : ¬ (9223372036854775807 < 5 + x.veh.size) := by omega
  cases ow with
  | none =>
    go_enter Tryz.func38, Tryz.ntmps38
    go_wp2_with (fail)
    with_reducible refine HOW.out.mono ?_
    rintro e w2 ⟨rfl, hb⟩
    have HB2 := Lib.hid (bl_trans HB1.out hb)
    have n1 := (hb.block (w.heap.size + 1) (by simp)).trans HN1.out
    obtain ⟨-, d1, d2, -, d4, -⟩ := blk7 n1
    clear hb n1 c17 HOW HN1
    go_wp2
    go_ret
    exact ⟨ret_str' (by rw [HD.out]; rfl), HB2.out⟩
  | some nm =>
    have z2 := HS.out nm rfl
    have z3 : ¬ (9223372036854775807 < 8 + nm.size) := by omega
    go_enter Tryz.func38, Tryz.ntmps38
    go_wp2_with (fail)
    with_reducible refine HOW.out.mono ?_
    rintro e w2 ⟨rfl, hb⟩
    have HB2 := Lib.hid (bl_trans HB1.out hb)
    clear hb c17 HOW HN1
    go_wp2
    go_ret
    exact ⟨ret_str' (by rw [HD.out]; rfl), HB2.out⟩
set_option maxRecDepth 100000 in
theorem credit_any (x : Chg) (v : Value) (w : World) (h2 : x.sys.size ≤ 30) :
    Calls Tryz.prog 39 #[.agg #[.string x.key, .string x.veh, .string x.sys, .int .i64 x.cls, .int .i64 x.tm, v, .int .i64 x.c]] w fun e w' => e = .returned (.string (creC x)) ∧ Below w.heap.size w w' := by
  have HB := Lib.hid (bl_alloc (Below.refl w.heap.size w) (.cells #[.string x.key, .string x.veh, .string x.sys, .int .i64 x.cls, .int .i64 x.tm, v, .int .i64 x.c] 49))
  have hos : orS [x.sys, sDash] = if x.sys = es then sDash else x.sys := by
    unfold orS orS orS
    split
    · show (if sDash = es then es else sDash) = sDash
      rw [if_neg (by decide)]
    · rfl
  have HC := Lib.hid (show creC x = sRev ++ (if x.sys = es then sDash else x.sys) by unfold creC; rw [hos])
  have z : ¬ (9223372036854775807 < 8 + x.sys.size) := by omega
  clear hos
  by_cases he : x.sys = es
  · have h0 : x.sys.toList.isEmpty = true := by rw [emp_iff]; simpa using he
    have HR := Lib.hid (HC.out.trans (by rw [if_pos he]))
    clear he
    go_enter Tryz.func39, Tryz.ntmps39
    go_wp2
    go_ret
    exact ⟨ret_str' (by rw [HR.out]; decide), HB.out⟩
  · have h0 : x.sys.toList.isEmpty = false := by rw [emp_iff]; simpa using he
    have HR := Lib.hid (HC.out.trans (by rw [if_neg he]))
    clear he
    go_enter Tryz.func39, Tryz.ntmps39
    go_wp2
    go_ret
    exact ⟨ret_str' (by rw [HR.out]; rfl), HB.out⟩
end Go.Proofs.YtifcelebfagjbaaGreatDoor
