/-
  Layer 37 (post), from below: account.owned, Owner.
-/
import Derived.Test.YtifcelebfagjbaaGreatDoorMgG
import Derived.Test.YtifcelebfagjbaaGreatDoorMgD
import Derived.Deep.RegionWith
import Derived.Laws.RangeAny
import Derived.Laws.RangeString
import Derived.LoopTactic
namespace Go.Proofs.YtifcelebfagjbaaGreatDoor
open Go.RowKit Go.Tw Go.Tw.Ord Go.Tw.Po Go.Sort
set_option maxRecDepth 100000 in
set_option maxHeartbeats 4000000 in
theorem owned_any (l : List Ow) (v : Value) (vh : ByteArray) (t : Int) (w : World) (h : SlIs tOw (· < w.heap.size) w v l) :
    Calls Tryz.prog 135 #[v, .string vh, .int .i64 t] w fun e w' => e = .returned (.int .i64 (ownI l vh t)) ∧ Below w.heap.size w w' := by
  obtain ⟨ao, cap, bi, off, rfl, hl, hm, ho⟩ := ow_open h
  unfold maxLen at hm
  have HO := Lib.hid ho
  clear h ho
  go_enter Tryz.func135, Tryz.ntmps135
  go_wp2
  go_loopg [11] l.length (fun g i wr => ∃ k : Nat, k + g = l.length ∧ i = .int .i64 k ∧ Hid (∀ j (hj : j < l.length), j < k → owB vh t l[j] = false) ∧ Below w.heap.size w wr)
  case atStart => exact ⟨0, by omega, rfl, Lib.hid (fun j _ h => by omega), Below.refl _ _⟩
  case round =>
    obtain ⟨k, hk, rfl, HT, hb1⟩ := hrel
    have HB := Lib.hid hb1
    by_cases hlt : k < l.length
    · obtain ⟨rfl, -, hbi, -, c0, c1, c2, c3⟩ := HO.out wr (.of_below hb1) k hlt
      have k0 : (0 : Int) ≤ (k : Int) := by omega
      have k1 : (k : Int) < (l.length : Int) := by omega
      have HG1 := Lib.hid (show ∀ j (hj : j < l.length), j = k → l[j] = l[k] by rintro j hj rfl; rfl)
      generalize l[k] = y at *
      obtain ⟨yt, yp, yf, yo⟩ := y
      simp only at c0 c1 c2 c3
      have hb2 := bl_alloc hb1 (.cells #[.string yt, .string yp, .int .i64 yf, .int .i64 yo] 138)
      have HBA := Lib.hid hb2
      have HBC := Lib.hid (bl_alloc hb2 (.cells #[.int .i64 yf, .int .i64 yo] 136))
      have HHAS := Lib.hid (has_any yf yo t (wr.heap.size + 1) ((wr.alloc (.cells #[.string yt, .string yp, .int .i64 yf, .int .i64 yo] 138)).alloc (.cells #[.int .i64 yf, .int .i64 yo] 136)) (heap_alloc2_new wr _ _))
      obtain ⟨q, hq⟩ : ∃ q, hasI yf yo t = q := ⟨_, rfl⟩
      have HOB := Lib.hid (show owB vh t ⟨yt, yp, yf, yo⟩ = (!decide (vh.size = 0) && (decide (yt = vh) || decide (yp = vh)) && q) by rw [← hq]; rfl)
      rw [hq] at HHAS
      clear hb1 hb2 hq
      by_cases hz : vh.size = 0
      · have HE := Lib.hid (show owB vh t ⟨yt, yp, yf, yo⟩ = false by rw [HOB.out, decide_eq_true hz]; rfl)
        have he := emp_yes hz
        clear hz
        go_wp2_with (go_at_call 152; with_reducible refine HHAS.out.mono ?_; rintro e w2 ⟨rfl, hb2⟩; have HB2 := Lib.hid (bl_trans HBC.out hb2); clear hb2)
        go_roundg (l.length - (k + 1))
        case measure => omega
        case rel => exact ⟨k + 1, by omega, by go_num, Lib.hid (fun j hj h => by
          by_cases e : j = k
          · rw [HG1.out j hj e]; exact HE.out
          · exact HT.out j hj (by omega)), HBA.out⟩
      have he := emp_no hz
      have HZ := Lib.hid (decide_eq_false hz)
      clear hz
      obtain ⟨a1, ha1⟩ : ∃ a, (yt.toList == vh.toList) = a := ⟨_, rfl⟩
      have HA1 := Lib.hid (show decide (yt = vh) = a1 by rw [← ha1, eq_str])
      obtain ⟨a2, ha2⟩ : ∃ a, (yp.toList == vh.toList) = a := ⟨_, rfl⟩
      have HA2 := Lib.hid (show decide (yp = vh) = a2 by rw [← ha2, eq_str])
      cases a1 with
      | false =>
        cases a2 with
        | false =>
          have HE := Lib.hid (show owB vh t ⟨yt, yp, yf, yo⟩ = false by rw [HOB.out, HA1.out, HA2.out]; simp)
          go_wp2_with (go_at_call 152; with_reducible refine HHAS.out.mono ?_; rintro e w2 ⟨rfl, hb2⟩; have HB2 := Lib.hid (bl_trans HBC.out hb2); clear hb2)
          go_roundg (l.length - (k + 1))
          case measure => omega
          case rel => exact ⟨k + 1, by omega, by go_num, Lib.hid (fun j hj h => by
            by_cases e : j = k
            · rw [HG1.out j hj e]; exact HE.out
            · exact HT.out j hj (by omega)), HBA.out⟩
        | true =>
          cases q with
          | false =>
            have HE := Lib.hid (show owB vh t ⟨yt, yp, yf, yo⟩ = false by rw [HOB.out]; simp)
            go_wp2_with (go_at_call 152; with_reducible refine HHAS.out.mono ?_; rintro e w2 ⟨rfl, hb2⟩; have HB2 := Lib.hid (bl_trans HBC.out hb2); clear hb2)
            go_roundg (l.length - (k + 1))
            case measure => omega
            case rel => exact ⟨k + 1, by omega, by go_num, Lib.hid (fun j hj h => by
              by_cases e : j = k
              · rw [HG1.out j hj e]; exact HE.out
              · exact HT.out j hj (by omega)), HB2.out⟩
          | true =>
            have HE := Lib.hid (show owB vh t ⟨yt, yp, yf, yo⟩ = true by rw [HOB.out, HA1.out, HA2.out, HZ.out]; rfl)
            go_wp2_with (go_at_call 152; with_reducible refine HHAS.out.mono ?_; rintro e w2 ⟨rfl, hb2⟩; have HB2 := Lib.hid (bl_trans HBC.out hb2); clear hb2)
            go_ret
            exact ⟨ret_int (ownI_some hlt (by rw [HG1.out k hlt rfl]; exact HE.out) HT.out), HB2.out⟩
      | true =>
        cases q with
        | false =>
          have HE := Lib.hid (show owB vh t ⟨yt, yp, yf, yo⟩ = false by rw [HOB.out]; simp)
          go_wp2_with (go_at_call 152; with_reducible refine HHAS.out.mono ?_; rintro e w2 ⟨rfl, hb2⟩; have HB2 := Lib.hid (bl_trans HBC.out hb2); clear hb2)
          go_roundg (l.length - (k + 1))
          case measure => omega
          case rel => exact ⟨k + 1, by omega, by go_num, Lib.hid (fun j hj h => by
            by_cases e : j = k
            · rw [HG1.out j hj e]; exact HE.out
            · exact HT.out j hj (by omega)), HB2.out⟩
        | true =>
          have HE := Lib.hid (show owB vh t ⟨yt, yp, yf, yo⟩ = true by rw [HOB.out, HA1.out, HZ.out]; rfl)
          go_wp2_with (go_at_call 152; with_reducible refine HHAS.out.mono ?_; rintro e w2 ⟨rfl, hb2⟩; have HB2 := Lib.hid (bl_trans HBC.out hb2); clear hb2)
          go_ret
          exact ⟨ret_int (ownI_some hlt (by rw [HG1.out k hlt rfl]; exact HE.out) HT.out), HB2.out⟩
    · go_wp2
      go_ret
      exact ⟨ret_int (ownI_none fun j hj => HT.out j hj (by omega)), HB.out⟩
end Go.Proofs.YtifcelebfagjbaaGreatDoor
/-
  Layer 37 (post), from below: account.Owner.
-/
namespace Go.Tw.Po
open Go.RowKit Go.Tw Go.Sort Go.Tw.Ord
theorem acc_open {e : TypeId} {S : Nat → Prop} {w : World} {v : Value} {l : List Acc} (h : SlIs (tAcc e) S w v l) :
    ∃ ao cap b off, v = .slice ao l.length cap ∧ l.length ≤ cap ∧ cap ≤ maxLen ∧ ∀ w', SameOn S w w' → ∀ k (_ : k < l.length), ao = some ⟨b, off, none⟩ ∧ S b ∧ b < w.heap.size ∧ l[k].nm.size ≤ maxLen ∧ ∃ hv, SlIs tOw S w' hv l[k].ow ∧
      w'.cell? ⟨b, off + k * 9, none⟩ = some (.string l[k].nm) ∧ w'.cell? ⟨b, off + k * 9 + 1, none⟩ = some (.string l[k].ag) ∧ w'.cell? ⟨b, off + k * 9 + 2, none⟩ = some (.bool l[k].pre) ∧ w'.cell? ⟨b, off + k * 9 + 3, none⟩ = some hv ∧ w'.cell? ⟨b, off + k * 9 + 4, none⟩ = some (.int .i64 l[k].r1) ∧ w'.cell? ⟨b, off + k * 9 + 5, none⟩ = some (.int .i64 l[k].r2) ∧ w'.cell? ⟨b, off + k * 9 + 6, none⟩ = some (.int .i64 l[k].r3) ∧ w'.cell? ⟨b, off + k * 9 + 7, none⟩ = some (.int .i64 l[k].r4) ∧ w'.cell? ⟨b, off + k * 9 + 8, none⟩ = some (.bool l[k].ex) := by
  obtain ⟨ao, cap, b, off, hv, h1, h2, h3⟩ := h.openS
  refine ⟨ao, cap, b, off, hv, h1, h2, fun w' hw k hk => ?_⟩
  obtain ⟨g1, g2, g2', cs, g3, g4⟩ := h3 w' hw k hk
  obtain ⟨hv, rfl, g5, g6⟩ := tAcc_is g4
  have g3' : ∀ j, j < 9 → w'.cell? ⟨b, off + k * 9 + j, none⟩ = ([.string l[k].nm, .string l[k].ag, .bool l[k].pre, hv, .int .i64 l[k].r1, .int .i64 l[k].r2, .int .i64 l[k].r3, .int .i64 l[k].r4, .bool l[k].ex] : List Value)[j]? := g3
  exact ⟨g1, g2, g2', g5, hv, g6, g3' 0 (by decide), g3' 1 (by decide), g3' 2 (by decide), g3' 3 (by decide), g3' 4 (by decide), g3' 5 (by decide), g3' 6 (by decide), g3' 7 (by decide), g3' 8 (by decide)⟩
theorem owner_some {l : List Acc} {vh : ByteArray} {t : Int} {k : Nat} (hk : k < l.length) (h : l[k].ow.any (owB vh t) = true) (hb : ∀ j (hj : j < l.length), j < k → l[j].ow.any (owB vh t) = false) : ownerO l vh t = some l[k].nm := by
  have : l.find? (fun a => a.ow.any (owB vh t)) = some l[k] := by
    rw [List.find?_eq_some_iff_getElem]
    exact ⟨h, k, hk, rfl, fun j hj => by rw [hb j (by omega) hj]; rfl⟩
  unfold ownerO
  rw [this]
  rfl
theorem owner_none {l : List Acc} {vh : ByteArray} {t : Int} (h : ∀ j (hj : j < l.length), l[j].ow.any (owB vh t) = false) : ownerO l vh t = none := by
  have : l.find? (fun a => a.ow.any (owB vh t)) = none := by
    rw [List.find?_eq_none]
    intro x hx
    obtain ⟨j, hj, rfl⟩ := List.getElem_of_mem hx
    rw [h j hj]; simp
  unfold ownerO
  rw [this]
  rfl
end Go.Tw.Po
namespace Go.Proofs.YtifcelebfagjbaaGreatDoor
open Go.RowKit Go.Tw Go.Tw.Ord Go.Tw.Po Go.Sort
set_option maxRecDepth 100000 in
set_option maxHeartbeats 2000000 in
theorem owner_any (l : List Acc) (v : Value) (vh : ByteArray) (t : Int) (w : World) (h : SlIs (tAcc 138) (· < w.heap.size) w v l) :
    Calls Tryz.prog 108 #[v, .string vh, .int .i64 t] w fun e w' => e = .returned (.tuple #[.string ((ownerO l vh t).getD ByteArray.empty), .bool (ownerO l vh t).isSome]) ∧ Below w.heap.size w w' := by
  obtain ⟨ao, cap, bi, off, rfl, hl, hm, ho⟩ := acc_open h
  unfold maxLen at hm
  have HO := Lib.hid ho
  clear h ho
  go_enter Tryz.func108, Tryz.ntmps108
  go_wp2
  go_loopg [12] l.length (fun g i wr => ∃ k : Nat, k + g = l.length ∧ i = .int .i64 k ∧ Hid (∀ j (hj : j < l.length), j < k → l[j].ow.any (owB vh t) = false) ∧ Below w.heap.size w wr)
  case atStart => exact ⟨0, by omega, rfl, Lib.hid (fun j _ h => by omega), Below.refl _ _⟩
  case round =>
    obtain ⟨k, hk, rfl, HT, hb1⟩ := hrel
    have HB := Lib.hid hb1
    by_cases hlt : k < l.length
    · obtain ⟨rfl, -, hbi, -, hv, hsl, c0, c1, c2, c3, c4, c5, c6, c7, c8⟩ := HO.out wr (.of_below hb1) k hlt
      have k0 : (0 : Int) ≤ (k : Int) := by omega
      have k1 : (k : Int) < (l.length : Int) := by omega
      have HG1 := Lib.hid (show ∀ j (hj : j < l.length), j = k → l[j] = l[k] by rintro j hj rfl; rfl)
      generalize l[k] = y at *
      obtain ⟨yn, ya, yp, yo, y1, y2, y3, y4, ye⟩ := y
      simp only at hsl c0 c1 c2 c3 c4 c5 c6 c7 c8
      have hb2 := bl_alloc (Below.refl wr.heap.size wr) (.cells #[.string yn, .string ya, .bool yp, hv, .int .i64 y1, .int .i64 y2, .int .i64 y3, .int .i64 y4, .bool ye] 96)
      have hsl1 : SlIs tOw (· < wr.heap.size) wr hv yo := hsl.keep (fun j (hj : j < w.heap.size) => Nat.lt_of_lt_of_le hj hb1.size) (SameOn.refl _ _)
      have HOW := Lib.hid (owned_any yo hv vh t _ (hsl1.step hb2))
      have HBA := Lib.hid (bl_trans hb1 hb2)
      have HX := Lib.hid (ownI_any yo vh t)
      obtain ⟨hva, hvn, hvc, hve⟩ : ∃ a n c, hv = .slice a n c := by
        obtain ⟨a, c, _, _, e, -⟩ := hsl
        exact ⟨a, _, c, e⟩
      subst hve
      obtain ⟨z, hz⟩ : ∃ z, ownI yo vh t = z := ⟨_, rfl⟩
      rw [hz] at HOW HX
      clear hsl hsl1 hb1 hb2 hz
      rcases HX.out with ⟨q1, q2⟩ | ⟨q1, q2⟩
      · have HQ := Lib.hid q1
        have HE := Lib.hid (owner_some (vh := vh) (t := t) hlt (by rw [HG1.out k hlt rfl]; exact HQ.out) HT.out)
        have HE2 := Lib.hid (show l[k].nm = yn by rw [HG1.out k hlt rfl])
        clear q1 HX
        go_wp2_with (fail)
        with_reducible refine HOW.out.mono ?_
        rintro e w2 ⟨rfl, hb2⟩
        have n1 := (hb2.block wr.heap.size (by simp)).trans (heap_alloc_new _ _)
        have HB2 := Lib.hid (bl_trans HBA.out hb2)
        clear hb2 HOW
        have d0 : w2.cell? ⟨wr.heap.size, 0, none⟩ = some (.string yn) := by simp [World.cell?, n1]
        clear n1
        go_wp2
        go_ret2
        exact ⟨by rw [HE.out, HE2.out]; rfl, HB2.out⟩
      · subst q2
        have HQ := Lib.hid q1
        clear q1 HX
        go_wp2_with (go_at_call 135; with_reducible refine HOW.out.mono ?_; rintro e w2 ⟨rfl, hb2⟩; have HB2 := Lib.hid (bl_trans HBA.out hb2); clear hb2)
        go_roundg (l.length - (k + 1))
        case measure => omega
        case rel => exact ⟨k + 1, by omega, by go_num, Lib.hid (fun j hj h => by
          by_cases e : j = k
          · rw [HG1.out j hj e]; exact HQ.out
          · exact HT.out j hj (by omega)), HB2.out⟩
    · have HE := Lib.hid (owner_none (vh := vh) (t := t) fun j hj => HT.out j hj (by omega))
      go_wp2
      go_ret2
      exact ⟨by rw [HE.out]; rfl, HB.out⟩
end Go.Proofs.YtifcelebfagjbaaGreatDoor
/-
  Layer 37 (post): cmp.Or at strings.
-/
namespace Go.Tw.Po
open Go.RowKit Go.Tw
def es : ByteArray := ByteArray.empty
theorem emp_iff {s : ByteArray} : s.toList.isEmpty = decide (s = es) := by
  by_cases h : s.size = 0
  · rw [emp_yes h, decide_eq_true (show s = es from ByteArray.ext (Array.eq_empty_of_size_eq_zero h))]
  · rw [emp_no h, decide_eq_false]
    rintro rfl
    exact h rfl
/-- the first string that is not empty, or the empty one -/
def orS : List ByteArray → ByteArray
  | [] => es
  | a :: l => if a = es then orS l else a
end Go.Tw.Po
namespace Go.Proofs.YtifcelebfagjbaaGreatDoor
open Go.RowKit Go.Tw Go.Tw.Ord Go.Tw.Po Go.Sort
theorem ret_str {a b : ByteArray} (h : a = b) : Ending.returned (.string b) = .returned (.string a) := by rw [h]
set_option maxHeartbeats 1000000 in
theorem Or_str (l : List ByteArray) (g : Nat) (w : World) (h : w.heap[g]? = some (.cells (l.map Value.string).toArray 9 (0, 0))) (hl : l.length ≤ 100) :
    Calls Tryz.prog 109 #[.slice (some ⟨g, 0, none⟩) l.length l.length] w fun e w' => e = .returned (.string (orS l)) ∧ w' = w := by
  have HC := Lib.hid h
  clear h
  go_enter Tryz.func109, Tryz.ntmps109
  go_wp2
  go_loopg [8] l.length (fun gx i wr => ∃ k : Nat, k + gx = l.length ∧ i = .int .i64 k ∧ orS l = orS (l.drop k) ∧ wr = w)
  case atStart => exact ⟨0, by omega, rfl, rfl, rfl⟩
  case round =>
    obtain ⟨k, hk, rfl, he, rfl⟩ := hrel
    have HE := Lib.hid he
    clear he
    by_cases hlt : k < l.length
    · have k0 : (0 : Int) ≤ (k : Int) := by omega
      have k1 : (k : Int) < (l.length : Int) := by omega
      have c0 : wr.cell? ⟨g, k, none⟩ = some (.string l[k]) := by
        rw [cell_of_row _ _ _ _ _ _ HC.out]
        simp [hlt]
      have HD := Lib.hid (show orS (l.drop k) = if l[k] = es then orS (l.drop (k + 1)) else l[k] by rw [List.drop_eq_getElem_cons hlt, orS])
      obtain ⟨y, hy⟩ : ∃ y, l[k] = y := ⟨_, rfl⟩
      rw [hy] at c0 HD
      clear hy
      by_cases hz : y = es
      · have e1 : y.toList.isEmpty = true := by rw [emp_iff]; simpa using hz
        have HZ := Lib.hid hz
        clear hz
        go_wp2
        go_roundg (l.length - (k + 1))
        case measure => omega
        case rel => exact ⟨k + 1, by omega, by go_num, by rw [HE.out, HD.out, if_pos HZ.out], rfl⟩
      · have e1 : y.toList.isEmpty = false := by rw [emp_iff]; simpa using hz
        have HZ := Lib.hid hz
        clear hz
        go_wp2
        go_ret
        exact ⟨ret_str (HE.out.trans (HD.out.trans (if_neg HZ.out))), rfl⟩
    · have hkl : ¬ (k : Int) < (l.length : Int) := by omega
      have HN := Lib.hid (show orS l = es by rw [HE.out, List.drop_eq_nil_of_le (by omega), orS])
      go_wp2
      go_ret
      exact ⟨ret_str HN.out, rfl⟩
theorem moment_any (t : Int) (w : World) : Calls Tryz.prog 63 #[.int .i64 t] w fun e w' => e = .returned (.bool (decide (0 ≤ t) && decide (t ≤ 68719476736))) ∧ w = w' := by
  by_cases h1 : 0 ≤ t
  case neg =>
    have k1 : decide (0 ≤ t) = false := decide_eq_false h1
    have HE := Lib.hid (show (decide (0 ≤ t) && decide (t ≤ 68719476736)) = false by rw [k1]; rfl)
    clear h1
    go_enter Tryz.func63, Tryz.ntmps63
    go_wp2
    go_ret
    exact ⟨ret_bool HE.out, rfl⟩
  obtain ⟨q, hq⟩ : ∃ q, decide (t ≤ 68719476736) = q := ⟨_, rfl⟩
  have HE := Lib.hid (show (decide (0 ≤ t) && decide (t ≤ 68719476736)) = q by rw [decide_eq_true h1, hq]; rfl)
  cases q
  all_goals
    go_enter Tryz.func63, Tryz.ntmps63
    go_wp2
    go_ret
    exact ⟨ret_bool HE.out, rfl⟩
/-- the key of an entry -/
def keyC (s : ByteArray) (n : Int) : ByteArray := s ++ ⟨#[35]⟩ ++ fmtS n
set_option maxHeartbeats 1000000 in
theorem key_any (s : ByteArray) (n : Int) (w : World) (hs : s.size ≤ 100000) (hn : i64ok n) (hf : FmtOk n w) :
    Calls Tryz.prog 34 #[.string s, .int .i64 n] w fun e w' => e = .returned (.string (keyC s n)) ∧ Below w.heap.size w w' := by
  have HF := Lib.hid (hf w (Below.refl _ _))
  have hz : ¬ (9223372036854775807 < s.size + 1) := by omega
  have h20 := fmt_size hn
  have hz2 : ¬ (9223372036854775807 < s.size + 1 + (fmtS n).size) := by omega
  have HK := Lib.hid (show keyC s n = s ++ ⟨#[35]⟩ ++ fmtS n from rfl)
  generalize fmtS n = f at *
  clear hf h20
  go_enter Tryz.func34, Tryz.ntmps34
  go_wp2_with (go_at_call 69; with_reducible refine HF.out.mono ?_; rintro e w2 ⟨rfl, hg⟩; have HG := Lib.hid hg; clear hg)
  go_ret
  exact ⟨ret_str HK.out, HG.out.below⟩
end Go.Proofs.YtifcelebfagjbaaGreatDoor
/-
  Layer 37 (post): text.Name and tollwayref01.Name.
-/
namespace Go.Tw.Po
open Go.RowKit Go.Tw
def nb (i : Nat) (b : UInt8) : Prop := (97 ≤ b.toNat ∧ b.toNat ≤ 122) ∨ (0 < i ∧ (b.toNat = 45 ∨ (48 ≤ b.toNat ∧ b.toNat ≤ 57)))
def nameP (s : ByteArray) : Prop := 1 ≤ s.size ∧ s.size ≤ 12 ∧ ∀ i (h : i < s.size), nb i s[i]
open Classical in
noncomputable def nameC (s : ByteArray) : Bool := decide (nameP s)
theorem name_yes {s : ByteArray} (h : nameP s) : nameC s = true := by simp [nameC, h]
theorem name_no {s : ByteArray} (h : ¬ nameP s) : nameC s = false := by simp [nameC, h]
end Go.Tw.Po
namespace Go.Proofs.YtifcelebfagjbaaGreatDoor
open Go.RowKit Go.Tw Go.Tw.Po

set_option maxRecDepth 100000 in
set_option maxHeartbeats 1000000 in
theorem Name_any (s : ByteArray) (w : World) : Calls Tryz.prog 62 #[.string s] w fun e w' => e = .returned (.bool (nameC s)) ∧ Below w.heap.size w w' := by
  by_cases h0 : s.size = 0
  · have hs : s = ByteArray.empty := by
      apply ByteArray.ext
      exact Array.eq_empty_of_size_eq_zero h0
    subst hs
    go_enter Tryz.func62, Tryz.ntmps62
    go_wp2
    go_ret
    exact ⟨ret_bool (name_no (fun h => by have := h.1; simp at this)), Below.refl _ _⟩
  have hn1 : (s.toList == ByteArray.toList ByteArray.empty) = false := by
    rw [str_eq]
    simp
    rintro rfl
    exact h0 rfl
  have hne : s.toList.isEmpty = false := by
    cases h : s.toList with
    | nil => rw [h] at hn1; exact absurd hn1 (by rw [show ByteArray.empty.toList = [] by unfold ByteArray.toList ByteArray.toList.loop; rfl]; simp)
    | cons _ _ => rfl
  clear hn1
  by_cases h12 : 12 < s.size
  · have hlt : (12 : Int) < (s.size : Int) := by omega
    go_enter Tryz.func62, Tryz.ntmps62
    go_wp2
    go_ret
    exact ⟨ret_bool (name_no (fun h => by have := h.2.1; omega)), Below.refl _ _⟩
  have hle : ¬ (12 : Int) < (s.size : Int) := by omega
  go_enter Tryz.func62, Tryz.ntmps62
  go_wp2
  go_loopw [3] (fun n w' => ∃ (pos : Nat), w' = w.iter s pos ∧ pos ≤ s.size ∧ (∀ i (h : i < pos) (h2 : i < s.size), nb i s[i])) (fun _ w' => s.size - w'.iterPos w.heap.size)
  case atStart => exact ⟨0, rfl, Nat.zero_le _, fun i h => absurd h (Nat.not_lt_zero _)⟩
  case round =>
    obtain ⟨pos, rfl, hps, hall⟩ := hrel
    have HA := Lib.hid hall; clear hall
    by_cases hp : pos < s.size
    case neg =>
      have hnx : ∀ ty, (Instr.next (.pointer (some ⟨w.heap.size, 0, none⟩)) true ty).run Tryz.prog (w.iter s pos) = _ := fun ty => run_next_end w s pos ty hp
      go_wp2
      go_ret
      exact ⟨ret_bool (name_yes ⟨by omega, by omega, fun i h => HA.out i (by omega) h⟩), bl_alloc (Below.refl _ _) _⟩
    by_cases ha : (s[pos]'hp).toNat < 128
    case neg =>
      have hnx : ∀ ty, (Instr.next (.pointer (some ⟨w.heap.size, 0, none⟩)) true ty).run Tryz.prog (w.iter s pos) = _ := fun ty => run_next_any w s pos ty hp
      have hd := (decode_high s pos hp (by omega)).1
      generalize Utf8.decode s pos = r at hnx hd
      have g1 : (97 : Int) ≤ (r.1 : Int) := by omega
      have g2 : (122 : Int) < (r.1 : Int) := by omega
      have hbad : nameC s = false := name_no (fun h => by have := h.2.2 pos hp; unfold nb at this; omega)
      have HB := Lib.hid hbad; clear hbad
      by_cases p0 : pos = 0
      · have hp0 : ((pos : Int) == 0) = true := by simp [p0]
        clear p0
        go_wp2
        all_goals first
          | (go_ret; exact ⟨ret_bool HB.out, bl_alloc (Below.refl _ _) _⟩)
          | (exfalso; rename_i hh; simp at hh; omega)
      · have hp0 : ((pos : Int) == 0) = false := by simp [p0]
        have g3 : ((r.1 : Int) != 45) = true := by simp; omega
        have g4 : ¬ (r.1 : Int) < 48 := by omega
        have g5 : (57 : Int) < (r.1 : Int) := by omega
        clear p0
        go_wp2
        all_goals first
          | (go_ret; exact ⟨ret_bool HB.out, bl_alloc (Below.refl _ _) _⟩)
          | (exfalso; rename_i hh; simp at hh; omega)
    have hnx : ∀ ty, (Instr.next (.pointer (some ⟨w.heap.size, 0, none⟩)) true ty).run Tryz.prog (w.iter s pos) = _ := fun ty => run_next_ascii w s pos ty hp ha
    obtain ⟨b, hb⟩ : ∃ b : Nat, b = (s[pos]'hp).toNat := ⟨_, rfl⟩
    rw [← hb] at hnx
    have HN := Lib.hid hb; clear hb
    by_cases hz : (97 ≤ b ∧ b ≤ 122)
    · obtain ⟨z1, z2⟩ := hz
      have g1 : (97 : Int) ≤ (b : Int) := by omega
      have g2 : (b : Int) ≤ 122 := by omega
      go_wp2
      go_roundw
      case measure => simp; omega
      case rel =>
        refine ⟨pos + 1, rfl, by omega, fun i h h2 => ?_⟩
        by_cases e : i = pos
        · subst e; exact .inl ⟨by have := HN.out; omega, by have := HN.out; omega⟩
        · exact HA.out i (by omega) h2
    by_cases p0 : pos = 0
    · have hbad : nameC s = false := name_no (fun h => by have h1 := h.2.2 pos hp; have h2 := HN.out; unfold nb at h1; omega)
      have HB := Lib.hid hbad; clear hbad
      have hp0 : ((pos : Int) == 0) = true := by simp [p0]
      clear p0
      have g12 : (b : Int) < 97 ∨ (122 : Int) < (b : Int) := by omega
      clear hz
      rcases g12 with g1 | g1
      all_goals
        have g2 : ((97 : Int) ≤ (b : Int)) ∨ ((b : Int) < 97) := by omega
        rcases g2 with g2 | g2
        all_goals
          go_wp2
          all_goals first
            | (go_ret; exact ⟨ret_bool HB.out, bl_alloc (Below.refl _ _) _⟩)
            | (exfalso; rename_i hh; simp at hh; omega)
    have hp0 : ((pos : Int) == 0) = false := by simp [p0]
    by_cases hq : b = 45 ∨ (48 ≤ b ∧ b ≤ 57)
    · have g1 : (b : Int) < 97 := by omega
      have g3 : ((b : Int) != 45) = false ∨ (((b : Int) != 45) = true ∧ (48 : Int) ≤ (b : Int) ∧ (b : Int) ≤ 57) := by
        by_cases e : b = 45
        · exact .inl (by simp [e])
        · exact .inr ⟨by simp; omega, by omega, by omega⟩
      have HQ := Lib.hid hq
      have HP := Lib.hid p0
      clear hq p0 hz
      rcases g3 with g3 | ⟨g3, g4, g5⟩
      all_goals
        go_wp2
        go_roundw
        case measure => simp; omega
        case rel =>
          refine ⟨pos + 1, rfl, by omega, fun i h h2 => ?_⟩
          by_cases e : i = pos
          · subst e
            exact .inr ⟨by have := HP.out; omega, by have := HN.out; have := HQ.out; omega⟩
          · exact HA.out i (by omega) h2
    · have hbad : nameC s = false := name_no (fun h => by have h1 := h.2.2 pos hp; have h2 := HN.out; unfold nb at h1; omega)
      have HB := Lib.hid hbad; clear hbad
      have g3 : ((b : Int) != 45) = true := by simp; omega
      have g45 : (b : Int) < 48 ∨ ((48 : Int) ≤ (b : Int) ∧ (57 : Int) < (b : Int)) := by omega
      have g12 : (b : Int) < 97 ∨ ((97 : Int) ≤ (b : Int) ∧ (122 : Int) < (b : Int)) := by omega
      clear hq hz p0
      rcases g45 with g4 | ⟨g4, g4'⟩
      all_goals
        rcases g12 with g1 | ⟨g1, g1'⟩
        all_goals
          go_wp2
          all_goals first
            | (go_ret; exact ⟨ret_bool HB.out, bl_alloc (Below.refl _ _) _⟩)
            | (exfalso; rename_i hh; simp at hh; omega)

set_option maxRecDepth 100000 in
set_option maxHeartbeats 1000000 in
theorem NameR_any (s : ByteArray) (w : World) : Calls Tryz.prog 79 #[.string s] w fun e w' => e = .returned (.bool (nameC s)) ∧ Below w.heap.size w w' := by
  by_cases h0 : s.size = 0
  · have hlt : (s.size : Int) < 1 := by omega
    go_enter Tryz.func79, Tryz.ntmps79
    go_wp2
    go_ret
    exact ⟨ret_bool (name_no (fun h => by have := h.1; omega)), Below.refl _ _⟩
  have hn1 : ¬ (s.size : Int) < 1 := by omega
  by_cases h12 : 12 < s.size
  · have hlt : (12 : Int) < (s.size : Int) := by omega
    go_enter Tryz.func79, Tryz.ntmps79
    go_wp2
    go_ret
    exact ⟨ret_bool (name_no (fun h => by have := h.2.1; omega)), Below.refl _ _⟩
  have hle : ¬ (12 : Int) < (s.size : Int) := by omega
  go_enter Tryz.func79, Tryz.ntmps79
  go_wp2
  go_loopg [3] s.size (fun g i wr => ∃ k : Nat, k + g = s.size ∧ i = .int .i64 k ∧ Hid (∀ i (h : i < k) (h2 : i < s.size), nb i s[i]) ∧ w = wr)
  case atStart => exact ⟨0, by omega, rfl, Lib.hid (fun i h => absurd h (Nat.not_lt_zero _)), rfl⟩
  case round =>
    obtain ⟨k, hk, rfl, HA, rfl⟩ := hrel
    by_cases hlt : k < s.size
    case neg =>
      go_wp2
      go_ret
      exact ⟨ret_bool (name_yes ⟨by omega, by omega, fun i h => HA.out i (by omega) h⟩), Below.refl _ _⟩
    have k0 : (0 : Int) ≤ (k : Int) := by omega
    have k1 : (k : Int) < (s.size : Int) := by omega
    have hb := s[k].toNat_lt
    obtain ⟨b, hbb⟩ : ∃ b : Nat, b = s[k].toNat := ⟨_, rfl⟩
    have HBB := Lib.hid hbb
    have hz : (97 ≤ b ∧ b ≤ 122) ∨ (b = 45) ∨ (48 ≤ b ∧ b ≤ 57) ∨ (b < 48 ∧ b ≠ 45) ∨ (57 < b ∧ b < 97) ∨ (122 < b) := by omega
    rcases hz with ⟨q1, q2⟩ | q1 | ⟨q1, q2⟩ | ⟨q1, q2⟩ | ⟨q1, q2⟩ | q1
    · have g1 : (97 : Int) ≤ (s[k].toNat : Int) := by omega
      have g2 : (s[k].toNat : Int) ≤ 122 := by omega
      have g3 : (48 : Int) ≤ (s[k].toNat : Int) := by omega
      have g4 : decide ((s[k].toNat : Int) ≤ 57) = false := by simp; omega
      have g5 : ((s[k].toNat : Int) == 45) = false := by simp; omega
      have HQ := Lib.hid (show nb k s[k] by unfold nb; omega)
      clear q1 q2 hb hbb
      go_wp2
      go_roundg (s.size - (k + 1))
      case measure => omega
      case rel =>
        refine ⟨k + 1, by omega, by go_num, Lib.hid (fun i h h2 => ?_), rfl⟩
        by_cases e : i = k
        · subst e; exact HQ.out
        · exact HA.out i (by omega) h2
    · have g1 : (s[k].toNat : Int) < 97 := by omega
      have g3 : (s[k].toNat : Int) < 48 := by omega
      have g5 : ((s[k].toNat : Int) == 45) = true := by simp; omega
      by_cases kz : k = 0
      · have kz' : ((k : Int) == 0) = true := by simp [kz]
        have HN := Lib.hid (show nameC s = false from name_no (fun h => by have := h.2.2 k hlt; unfold nb at this; omega))
        clear q1 hb hbb kz
        (try clear q2)
        go_wp2
        go_ret
        exact ⟨ret_bool HN.out, Below.refl _ _⟩
      · have kz' : ((k : Int) == 0) = false := by simp; omega
        have HQ := Lib.hid (show nb k s[k] by unfold nb; omega)
        clear q1 hb hbb kz
        (try clear q2)
        go_wp2
        go_roundg (s.size - (k + 1))
        case measure => omega
        case rel =>
          refine ⟨k + 1, by omega, by go_num, Lib.hid (fun i h h2 => ?_), rfl⟩
          by_cases e : i = k
          · subst e; exact HQ.out
          · exact HA.out i (by omega) h2
    · have g1 : (s[k].toNat : Int) < 97 := by omega
      have g3 : (48 : Int) ≤ (s[k].toNat : Int) := by omega
      have g4 : (s[k].toNat : Int) ≤ 57 := by omega
      by_cases kz : k = 0
      · have kz' : ((k : Int) == 0) = true := by simp [kz]
        have HN := Lib.hid (show nameC s = false from name_no (fun h => by have := h.2.2 k hlt; unfold nb at this; omega))
        clear q1 hb hbb kz
        (try clear q2)
        go_wp2
        go_ret
        exact ⟨ret_bool HN.out, Below.refl _ _⟩
      · have kz' : ((k : Int) == 0) = false := by simp; omega
        have HQ := Lib.hid (show nb k s[k] by unfold nb; omega)
        clear q1 hb hbb kz
        (try clear q2)
        go_wp2
        go_roundg (s.size - (k + 1))
        case measure => omega
        case rel =>
          refine ⟨k + 1, by omega, by go_num, Lib.hid (fun i h h2 => ?_), rfl⟩
          by_cases e : i = k
          · subst e; exact HQ.out
          · exact HA.out i (by omega) h2
    · have g1 : (s[k].toNat : Int) < 97 := by omega
      have g3 : (s[k].toNat : Int) < 48 := by omega
      have g5 : ((s[k].toNat : Int) == 45) = false := by simp; omega
      have HN := Lib.hid (show nameC s = false from name_no (fun h => by have := h.2.2 k hlt; unfold nb at this; omega))
      clear q1 hb hbb
      (try clear q2)
      by_cases kz : k = 0
      · have kz' : ((k : Int) == 0) = true := by simp [kz]
        clear kz
        go_wp2
        go_ret
        exact ⟨ret_bool HN.out, Below.refl _ _⟩
      · have kz' : ((k : Int) == 0) = false := by simp; omega
        clear kz
        go_wp2
        go_ret
        exact ⟨ret_bool HN.out, Below.refl _ _⟩
    · have g1 : (s[k].toNat : Int) < 97 := by omega
      have g3 : (48 : Int) ≤ (s[k].toNat : Int) := by omega
      have g4 : decide ((s[k].toNat : Int) ≤ 57) = false := by simp; omega
      have g5 : ((s[k].toNat : Int) == 45) = false := by simp; omega
      have HN := Lib.hid (show nameC s = false from name_no (fun h => by have := h.2.2 k hlt; unfold nb at this; omega))
      clear q1 hb hbb
      (try clear q2)
      by_cases kz : k = 0
      · have kz' : ((k : Int) == 0) = true := by simp [kz]
        clear kz
        go_wp2
        go_ret
        exact ⟨ret_bool HN.out, Below.refl _ _⟩
      · have kz' : ((k : Int) == 0) = false := by simp; omega
        clear kz
        go_wp2
        go_ret
        exact ⟨ret_bool HN.out, Below.refl _ _⟩
    · have g1 : (97 : Int) ≤ (s[k].toNat : Int) := by omega
      have g2 : decide ((s[k].toNat : Int) ≤ 122) = false := by simp; omega
      have g3 : (48 : Int) ≤ (s[k].toNat : Int) := by omega
      have g4 : decide ((s[k].toNat : Int) ≤ 57) = false := by simp; omega
      have g5 : ((s[k].toNat : Int) == 45) = false := by simp; omega
      have HN := Lib.hid (show nameC s = false from name_no (fun h => by have := h.2.2 k hlt; unfold nb at this; omega))
      clear q1 hb hbb
      (try clear q2)
      by_cases kz : k = 0
      · have kz' : ((k : Int) == 0) = true := by simp [kz]
        clear kz
        go_wp2
        go_ret
        exact ⟨ret_bool HN.out, Below.refl _ _⟩
      · have kz' : ((k : Int) == 0) = false := by simp; omega
        clear kz
        go_wp2
        go_ret
        exact ⟨ret_bool HN.out, Below.refl _ _⟩
end Go.Proofs.YtifcelebfagjbaaGreatDoor
