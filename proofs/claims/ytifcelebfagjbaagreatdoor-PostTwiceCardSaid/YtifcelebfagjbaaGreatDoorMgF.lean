/-
  Layer proofs, merged: PoA3 PoK PoNm PoQ PoR Agg.
-/
import Derived.Test.YtifcelebfagjbaaGreatDoorMgE
import Derived.Test.YtifcelebfagjbaaGreatDoorMgD
import Derived.Test.YtifcelebfagjbaaGreatDoorMgB
import Derived.Deep.RegionWith
import Derived.Laws.RangeAny
import Derived.Laws.RangeString
import Derived.LoopTactic
import Derived.Test.YtifcelebfagjbaaGreatDoorMgA
import Derived.Laws.CopyRow
import Derived.Shelf.SlicesQ.Load
import Derived.Deep.QuietTactic
namespace Go.Tw.Po
open Go.RowKit Go.Tw Go.Sort Go.Tw.Ord
theorem acc_open {e : TypeId} {S : Nat → Prop} {w : World} {v : Value} {l : List Acc} (h : SlIs (tAcc e) S w v l) :
  ∃ ao cap b off, v = .slice ao l.length cap ∧ l.length ≤ cap ∧ cap ≤ maxLen ∧ ∀ w', SameOn S w w' → ∀ k (_ : k < l.length), ao = some ⟨b, off, none⟩ ∧ S b ∧ b < w.heap.size ∧ l[k].nm.size ≤ maxLen ∧ ∃ hv, SlIs tOw S w' hv l[k].ow ∧
   w'.cell? ⟨b, off + k * 9, none⟩ = some (.string l[k].nm) ∧ w'.cell? ⟨b, off + k * 9 + 1, none⟩ = some (.string l[k].ag) ∧ w'.cell? ⟨b, off + k * 9 + 2, none⟩ = some (.bool l[k].pre) ∧ w'.cell? ⟨b, off + k * 9 + 3, none⟩ = some hv ∧ w'.cell? ⟨b, off + k * 9 + 4, none⟩ = some (.int .i64 l[k].r1) ∧ w'.cell? ⟨b, off + k * 9 + 5, none⟩ = some (.int .i64 l[k].r2) ∧ w'.cell? ⟨b, off + k * 9 + 6, none⟩ = some (.int .i64 l[k].r3) ∧ w'.cell? ⟨b, off + k * 9 + 7, none⟩ = some (.int .i64 l[k].r4) ∧ w'.cell? ⟨b, off + k * 9 + 8, none⟩ = some (.bool l[k].ex) := by
 obtain ⟨ao, cap, b, off, hv, h1, h2, h3⟩ := h.openS; refine ⟨ao, cap, b, off, hv, h1, h2, fun w' hw k hk => ?_⟩; obtain ⟨g1, g2, g2', cs, g3, g4⟩ := h3 w' hw k hk; obtain ⟨hv, rfl, g5, g6⟩ := tAcc_is g4; have g3' : ∀ j, j < 9 → w'.cell? ⟨b, off + k * 9 + j, none⟩ = ([.string l[k].nm, .string l[k].ag, .bool l[k].pre, hv, .int .i64 l[k].r1, .int .i64 l[k].r2, .int .i64 l[k].r3, .int .i64 l[k].r4, .bool l[k].ex] : List Value)[j]? := g3; exact ⟨g1, g2, g2', g5, hv, g6, g3' 0 (by decide), g3' 1 (by decide), g3' 2 (by decide), g3' 3 (by decide), g3' 4 (by decide), g3' 5 (by decide), g3' 6 (by decide), g3' 7 (by decide), g3' 8 (by decide)⟩
theorem owner_some {l : List Acc} {vh : ByteArray} {t : Int} {k : Nat} (hk : k < l.length) (h : l[k].ow.any (owB vh t) = true) (hb : ∀ j (hj : j < l.length), j < k → l[j].ow.any (owB vh t) = false) : ownerO l vh t = some l[k].nm := by
 have : l.find? (fun a => a.ow.any (owB vh t)) = some l[k] := by
  rw [List.find?_eq_some_iff_getElem]; exact ⟨h, k, hk, rfl, fun j hj => by rw [hb j (by omega) hj]; rfl⟩
 unfold ownerO; rw [this]
 rfl
theorem owner_none {l : List Acc} {vh : ByteArray} {t : Int} (h : ∀ j (hj : j < l.length), l[j].ow.any (owB vh t) = false) : ownerO l vh t = none := by
 have : l.find? (fun a => a.ow.any (owB vh t)) = none := by
  rw [List.find?_eq_none]; intro x hx; obtain ⟨j, hj, rfl⟩ := List.getElem_of_mem hx; rw [h j hj]; simp
 unfold ownerO; rw [this]
 rfl
end Go.Tw.Po
namespace Go.Proofs.YtifcelebfagjbaaGreatDoor
open Go.RowKit Go.Tw Go.Tw.Ord Go.Tw.Po Go.Sort
set_option maxRecDepth 100000 in
set_option maxHeartbeats 2000000 in
theorem owner_any (l : List Acc) (v : Value) (vh : ByteArray) (t : Int) (w : World) (h : SlIs (tAcc 138) (· < w.heap.size) w v l) :
  Calls Tryz.prog 108 #[v, .string vh, .int .i64 t] w fun e w' => e = .returned (.tuple #[.string ((ownerO l vh t).getD ByteArray.empty), .bool (ownerO l vh t).isSome]) ∧ Below w.heap.size w w' := by
 obtain ⟨ao, cap, bi, off, rfl, hl, hm, ho⟩ := acc_open h; unfold maxLen at hm; have HO := Lib.hid ho; clear h ho
 go_enter Tryz.func108, Tryz.ntmps108
 go_wp2
 go_loopg [12] l.length (fun g i wr => ∃ k : Nat, k + g = l.length ∧ i = .int .i64 k ∧ Hid (∀ j (hj : j < l.length), j < k → l[j].ow.any (owB vh t) = false) ∧ Below w.heap.size w wr)
 case atStart => exact ⟨0, by omega, rfl, Lib.hid (fun j _ h => by omega), Below.refl _ _⟩
 case round =>
  obtain ⟨k, hk, rfl, HT, hb1⟩ := hrel; have HB := Lib.hid hb1
  by_cases hlt : k < l.length
  · obtain ⟨rfl, -, hbi, -, hv, hsl, c0, c1, c2, c3, c4, c5, c6, c7, c8⟩ := HO.out wr (.of_below hb1) k hlt
    have k0 : (0 : Int) ≤ (k : Int) := by omega
    have k1 : (k : Int) < (l.length : Int) := by omega
    have HG1 := Lib.hid (show ∀ j (hj : j < l.length), j = k → l[j] = l[k] by rintro j hj rfl; rfl); generalize l[k] = y at *; obtain ⟨yn, ya, yp, yo, y1, y2, y3, y4, ye⟩ := y; simp only at hsl c0 c1 c2 c3 c4 c5 c6 c7 c8; have hb2 := bl_alloc (Below.refl wr.heap.size wr) (.cells #[.string yn, .string ya, .bool yp, hv, .int .i64 y1, .int .i64 y2, .int .i64 y3, .int .i64 y4, .bool ye] 96); have hsl1 : SlIs tOw (· < wr.heap.size) wr hv yo := hsl.keep (fun j (hj : j < w.heap.size) => Nat.lt_of_lt_of_le hj hb1.size) (SameOn.refl _ _); have HOW := Lib.hid (owned_any yo hv vh t _ (hsl1.step hb2)); have HBA := Lib.hid (bl_trans hb1 hb2); have HX := Lib.hid (ownI_any yo vh t)
    obtain ⟨hva, hvn, hvc, hve⟩ : ∃ a n c, hv = .slice a n c := by
     obtain ⟨a, c, _, _, e, -⟩ := hsl; exact ⟨a, _, c, e⟩
    subst hve; obtain ⟨z, hz⟩ : ∃ z, ownI yo vh t = z := ⟨_, rfl⟩; rw [hz] at HOW HX; clear hsl hsl1 hb1 hb2 hz
    rcases HX.out with ⟨q1, q2⟩ | ⟨q1, q2⟩
    · have HQ := Lib.hid q1
      have HE := Lib.hid (owner_some (vh := vh) (t := t) hlt (by rw [HG1.out k hlt rfl]; exact HQ.out) HT.out); have HE2 := Lib.hid (show l[k].nm = yn by rw [HG1.out k hlt rfl]); clear q1 HX
      go_wp2_with (fail)
      with_reducible refine HOW.out.mono ?_
      rintro e w2 ⟨rfl, hb2⟩; have n1 := (hb2.block wr.heap.size (by simp)).trans (heap_alloc_new _ _); have HB2 := Lib.hid (bl_trans HBA.out hb2); clear hb2 HOW; have d0 : w2.cell? ⟨wr.heap.size, 0, none⟩ = some (.string yn) := by simp [World.cell?, n1]
      clear n1; go_wp2; go_ret2; exact ⟨by rw [HE.out, HE2.out]; rfl, HB2.out⟩
    · subst q2
      have HQ := Lib.hid q1; clear q1 HX
      go_wp2_with (go_at_call 135; with_reducible refine HOW.out.mono ?_; rintro e w2 ⟨rfl, hb2⟩; have HB2 := Lib.hid (bl_trans HBA.out hb2); clear hb2)
      go_roundg (l.length - (k + 1))
      case measure => omega
      case rel => exact ⟨k + 1, by omega, by go_num, Lib.hid (fun j hj h => by
       by_cases e : j = k
       · rw [HG1.out j hj e]; exact HQ.out
       · exact HT.out j hj (by omega)), HB2.out⟩
  · have HE := Lib.hid (owner_none (vh := vh) (t := t) fun j hj => HT.out j hj (by omega))
    go_wp2; go_ret2; exact ⟨by rw [HE.out]; rfl, HB.out⟩
end Go.Proofs.YtifcelebfagjbaaGreatDoor
namespace Go.Tw.Po
open Go.RowKit Go.Tw
def es : ByteArray := ByteArray.empty
theorem emp_iff {s : ByteArray} : s.toList.isEmpty = decide (s = es) := by
 by_cases h : s.size = 0
 · rw [emp_yes h, decide_eq_true (show s = es from ByteArray.ext (Array.eq_empty_of_size_eq_zero h))]
 · rw [emp_no h, decide_eq_false]
   rintro rfl; exact h rfl
def orS : List ByteArray → ByteArray
 | [] => es
 | a :: l => if a = es then orS l else a
end Go.Tw.Po
namespace Go.Proofs.YtifcelebfagjbaaGreatDoor
open Go.RowKit Go.Tw Go.Tw.Ord Go.Tw.Po Go.Sort
theorem ret_str {a b : ByteArray} (h : a = b) : Ending.returned (.string b) = .returned (.string a) := by rw [h]
set_option maxHeartbeats 1000000 in
theorem Or_str (l : List ByteArray) (g : Nat) (w : World) (h : w.heap[g]? = some (.cells (l.map Value.string).toArray 9 (0, 0))) (hl : l.length ≤ 100) :
  Calls Tryz.prog 109 #[.slice (some ⟨g, 0, none⟩) l.length l.length] w fun e w' => e = .returned (.string (orS l)) ∧ w' = w := by
 have HC := Lib.hid h; clear h
 go_enter Tryz.func109, Tryz.ntmps109
 go_wp2
 go_loopg [8] l.length (fun gx i wr => ∃ k : Nat, k + gx = l.length ∧ i = .int .i64 k ∧ orS l = orS (l.drop k) ∧ wr = w)
 case atStart => exact ⟨0, by omega, rfl, rfl, rfl⟩
 case round =>
  obtain ⟨k, hk, rfl, he, rfl⟩ := hrel; have HE := Lib.hid he; clear he
  by_cases hlt : k < l.length
  · have k0 : (0 : Int) ≤ (k : Int) := by omega
    have k1 : (k : Int) < (l.length : Int) := by omega
    have c0 : wr.cell? ⟨g, k, none⟩ = some (.string l[k]) := by
     rw [cell_of_row _ _ _ _ _ _ HC.out]; simp [hlt]
    have HD := Lib.hid (show orS (l.drop k) = if l[k] = es then orS (l.drop (k + 1)) else l[k] by rw [List.drop_eq_getElem_cons hlt, orS]); obtain ⟨y, hy⟩ : ∃ y, l[k] = y := ⟨_, rfl⟩; rw [hy] at c0 HD; clear hy
    by_cases hz : y = es
    · have e1 : y.toList.isEmpty = true := by rw [emp_iff]; simpa using hz
      have HZ := Lib.hid hz; clear hz; go_wp2
      go_roundg (l.length - (k + 1))
      case measure => omega
      case rel => exact ⟨k + 1, by omega, by go_num, by rw [HE.out, HD.out, if_pos HZ.out], rfl⟩
    · have e1 : y.toList.isEmpty = false := by rw [emp_iff]; simpa using hz
      have HZ := Lib.hid hz; clear hz; go_wp2; go_ret; exact ⟨ret_str (HE.out.trans (HD.out.trans (if_neg HZ.out))), rfl⟩
  · have hkl : ¬ (k : Int) < (l.length : Int) := by omega
    have HN := Lib.hid (show orS l = es by rw [HE.out, List.drop_eq_nil_of_le (by omega), orS]); go_wp2; go_ret; exact ⟨ret_str HN.out, rfl⟩
theorem moment_any (t : Int) (w : World) : Calls Tryz.prog 63 #[.int .i64 t] w fun e w' => e = .returned (.bool (decide (0 ≤ t) && decide (t ≤ 68719476736))) ∧ w = w' := by
 by_cases h1 : 0 ≤ t
 case neg =>
  have k1 : decide (0 ≤ t) = false := decide_eq_false h1; have HE := Lib.hid (show (decide (0 ≤ t) && decide (t ≤ 68719476736)) = false by rw [k1]; rfl); clear h1
  go_enter Tryz.func63, Tryz.ntmps63
  go_wp2; go_ret; exact ⟨ret_bool HE.out, rfl⟩
 obtain ⟨q, hq⟩ : ∃ q, decide (t ≤ 68719476736) = q := ⟨_, rfl⟩; have HE := Lib.hid (show (decide (0 ≤ t) && decide (t ≤ 68719476736)) = q by rw [decide_eq_true h1, hq]; rfl)
 cases q
 all_goals
  go_enter Tryz.func63, Tryz.ntmps63
  go_wp2; go_ret; exact ⟨ret_bool HE.out, rfl⟩
def keyC (s : ByteArray) (n : Int) : ByteArray := s ++ ⟨#[35]⟩ ++ fmtS n
set_option maxHeartbeats 1000000 in
theorem key_any (s : ByteArray) (n : Int) (w : World) (hs : s.size ≤ 100000) (hn : i64ok n) (hf : FmtOk n w) :
  Calls Tryz.prog 34 #[.string s, .int .i64 n] w fun e w' => e = .returned (.string (keyC s n)) ∧ Below w.heap.size w w' := by
 have HF := Lib.hid (hf w (Below.refl _ _)); have hz : ¬ (9223372036854775807 < s.size + 1) := by omega
 have h20 := fmt_size hn; have hz2 : ¬ (9223372036854775807 < s.size + 1 + (fmtS n).size) := by omega
 have HK := Lib.hid (show keyC s n = s ++ ⟨#[35]⟩ ++ fmtS n from rfl); generalize fmtS n = f at *; clear hf h20
 go_enter Tryz.func34, Tryz.ntmps34
 go_wp2_with (go_at_call 69; with_reducible refine HF.out.mono ?_; rintro e w2 ⟨rfl, hg⟩; have HG := Lib.hid hg; clear hg)
 go_ret; exact ⟨ret_str HK.out, HG.out.below⟩
end Go.Proofs.YtifcelebfagjbaaGreatDoor
namespace Go.Tw.Po
open Go.RowKit Go.Tw
def nb (i : Nat) (b : UInt8) : Prop := (97 ≤ b.toNat ∧ b.toNat ≤ 122) ∨ (0 < i ∧ (b.toNat = 45 ∨ (48 ≤ b.toNat ∧ b.toNat ≤ 57)))
def nameP (s : ByteArray) : Prop := 1 ≤ s.size ∧ s.size ≤ 12 ∧ ∀ i (h : i < s.size), nb i s[i]
open Classical in
noncomputable def nameC (s : ByteArray) : Bool := decide (nameP s)
theorem name_yes {s : ByteArray} (h : nameP s) : nameC s = true := by simp [nameC, h]
theorem name_no {s : ByteArray} (h : ¬ nameP s) : nameC s = false := by simp [nameC, h]
end Go.Tw.Po
namespace Go.Proofs.YtifcelebfagjbaaGreatDoor
open Go.RowKit Go.Tw Go.Tw.Po
set_option maxRecDepth 100000 in
set_option maxHeartbeats 1000000 in
theorem Name_any (s : ByteArray) (w : World) : Calls Tryz.prog 62 #[.string s] w fun e w' => e = .returned (.bool (nameC s)) ∧ Below w.heap.size w w' := by
 by_cases h0 : s.size = 0
 · have hs : s = ByteArray.empty := by
     apply ByteArray.ext
     exact Array.eq_empty_of_size_eq_zero h0
   subst hs
   go_enter Tryz.func62, Tryz.ntmps62
   go_wp2; go_ret; exact ⟨ret_bool (name_no (fun h => by have := h.1; simp at this)), Below.refl _ _⟩
 have hn1 : (s.toList == ByteArray.toList ByteArray.empty) = false := by
  rw [str_eq]; simp; rintro rfl; exact h0 rfl
 have hne : s.toList.isEmpty = false := by
  cases h : s.toList with
  | nil => rw [h] at hn1; exact absurd hn1 (by rw [show ByteArray.empty.toList = [] by unfold ByteArray.toList ByteArray.toList.loop; rfl]; simp)
  | cons _ _ => rfl
 clear hn1
 by_cases h12 : 12 < s.size
 · have hlt : (12 : Int) < (s.size : Int) := by omega
   go_enter Tryz.func62, Tryz.ntmps62
   go_wp2; go_ret; exact ⟨ret_bool (name_no (fun h => by have := h.2.1; omega)), Below.refl _ _⟩
 have hle : ¬ (12 : Int) < (s.size : Int) := by omega
 go_enter Tryz.func62, Tryz.ntmps62
 go_wp2
 go_loopw [3] (fun n w' => ∃ (pos : Nat), w' = w.iter s pos ∧ pos ≤ s.size ∧ (∀ i (h : i < pos) (h2 : i < s.size), nb i s[i])) (fun _ w' => s.size - w'.iterPos w.heap.size)
 case atStart => exact ⟨0, rfl, Nat.zero_le _, fun i h => absurd h (Nat.not_lt_zero _)⟩
 case round =>
  obtain ⟨pos, rfl, hps, hall⟩ := hrel; have HA := Lib.hid hall; clear hall
  by_cases hp : pos < s.size
  case neg =>
   have hnx : ∀ ty, (Instr.next (.pointer (some ⟨w.heap.size, 0, none⟩)) true ty).run Tryz.prog (w.iter s pos) = _ := fun ty => run_next_end w s pos ty hp
   go_wp2; go_ret; exact ⟨ret_bool (name_yes ⟨by omega, by omega, fun i h => HA.out i (by omega) h⟩), bl_alloc (Below.refl _ _) _⟩
  by_cases ha : (s[pos]'hp).toNat < 128
  case neg =>
   have hnx : ∀ ty, (Instr.next (.pointer (some ⟨w.heap.size, 0, none⟩)) true ty).run Tryz.prog (w.iter s pos) = _ := fun ty => run_next_any w s pos ty hp
   have hd := (decode_high s pos hp (by omega)).1; generalize Utf8.decode s pos = r at hnx hd; have g1 : (97 : Int) ≤ (r.1 : Int) := by omega
   have g2 : (122 : Int) < (r.1 : Int) := by omega
   have hbad : nameC s = false := name_no (fun h => by have := h.2.2 pos hp; unfold nb at this; omega); have HB := Lib.hid hbad; clear hbad
   by_cases p0 : pos = 0
   · have hp0 : ((pos : Int) == 0) = true := by simp [p0]
     clear p0; go_wp2
     all_goals first
      | (go_ret; exact ⟨ret_bool HB.out, bl_alloc (Below.refl _ _) _⟩)
      | (exfalso; rename_i hh; simp at hh; omega)
   · have hp0 : ((pos : Int) == 0) = false := by simp [p0]
     have g3 : ((r.1 : Int) != 45) = true := by simp; omega
     have g4 : ¬ (r.1 : Int) < 48 := by omega
     have g5 : (57 : Int) < (r.1 : Int) := by omega
     clear p0; go_wp2
     all_goals first
      | (go_ret; exact ⟨ret_bool HB.out, bl_alloc (Below.refl _ _) _⟩)
      | (exfalso; rename_i hh; simp at hh; omega)
  have hnx : ∀ ty, (Instr.next (.pointer (some ⟨w.heap.size, 0, none⟩)) true ty).run Tryz.prog (w.iter s pos) = _ := fun ty => run_next_ascii w s pos ty hp ha
  obtain ⟨b, hb⟩ : ∃ b : Nat, b = (s[pos]'hp).toNat := ⟨_, rfl⟩; rw [← hb] at hnx; have HN := Lib.hid hb; clear hb
  by_cases hz : (97 ≤ b ∧ b ≤ 122)
  · obtain ⟨z1, z2⟩ := hz
    have g1 : (97 : Int) ≤ (b : Int) := by omega
    have g2 : (b : Int) ≤ 122 := by omega
    go_wp2
    go_roundw
    case measure => simp; omega
    case rel =>
     refine ⟨pos + 1, rfl, by omega, fun i h h2 => ?_⟩
     by_cases e : i = pos
     · subst e; exact .inl ⟨by have := HN.out; omega, by have := HN.out; omega⟩
     · exact HA.out i (by omega) h2
  by_cases p0 : pos = 0
  · have hbad : nameC s = false := name_no (fun h => by have h1 := h.2.2 pos hp; have h2 := HN.out; unfold nb at h1; omega)
    have HB := Lib.hid hbad; clear hbad; have hp0 : ((pos : Int) == 0) = true := by simp [p0]
    clear p0; have g12 : (b : Int) < 97 ∨ (122 : Int) < (b : Int) := by omega
    clear hz
    rcases g12 with g1 | g1
    all_goals
     have g2 : ((97 : Int) ≤ (b : Int)) ∨ ((b : Int) < 97) := by omega
     rcases g2 with g2 | g2
     all_goals
      go_wp2
      all_goals first
       | (go_ret; exact ⟨ret_bool HB.out, bl_alloc (Below.refl _ _) _⟩)
       | (exfalso; rename_i hh; simp at hh; omega)
  have hp0 : ((pos : Int) == 0) = false := by simp [p0]
  by_cases hq : b = 45 ∨ (48 ≤ b ∧ b ≤ 57)
  · have g1 : (b : Int) < 97 := by omega
    have g3 : ((b : Int) != 45) = false ∨ (((b : Int) != 45) = true ∧ (48 : Int) ≤ (b : Int) ∧ (b : Int) ≤ 57) := by
     by_cases e : b = 45
     · exact .inl (by simp [e])
     · exact .inr ⟨by simp; omega, by omega, by omega⟩
    have HQ := Lib.hid hq; have HP := Lib.hid p0; clear hq p0 hz
    rcases g3 with g3 | ⟨g3, g4, g5⟩
    all_goals
     go_wp2
     go_roundw
     case measure => simp; omega
     case rel =>
      refine ⟨pos + 1, rfl, by omega, fun i h h2 => ?_⟩
      by_cases e : i = pos
      · subst e
        exact .inr ⟨by have := HP.out; omega, by have := HN.out; have := HQ.out; omega⟩
      · exact HA.out i (by omega) h2
  · have hbad : nameC s = false := name_no (fun h => by have h1 := h.2.2 pos hp; have h2 := HN.out; unfold nb at h1; omega)
    have HB := Lib.hid hbad; clear hbad; have g3 : ((b : Int) != 45) = true := by simp; omega
    have g45 : (b : Int) < 48 ∨ ((48 : Int) ≤ (b : Int) ∧ (57 : Int) < (b : Int)) := by omega
    have g12 : (b : Int) < 97 ∨ ((97 : Int) ≤ (b : Int) ∧ (122 : Int) < (b : Int)) := by omega
    clear hq hz p0
    rcases g45 with g4 | ⟨g4, g4'⟩
    all_goals
     rcases g12 with g1 | ⟨g1, g1'⟩
     all_goals
      go_wp2
      all_goals first
       | (go_ret; exact ⟨ret_bool HB.out, bl_alloc (Below.refl _ _) _⟩)
       | (exfalso; rename_i hh; simp at hh; omega)
set_option maxRecDepth 100000 in
set_option maxHeartbeats 1000000 in
theorem NameR_any (s : ByteArray) (w : World) : Calls Tryz.prog 79 #[.string s] w fun e w' => e = .returned (.bool (nameC s)) ∧ Below w.heap.size w w' := by
 by_cases h0 : s.size = 0
 · have hlt : (s.size : Int) < 1 := by omega
   go_enter Tryz.func79, Tryz.ntmps79
   go_wp2; go_ret; exact ⟨ret_bool (name_no (fun h => by have := h.1; omega)), Below.refl _ _⟩
 have hn1 : ¬ (s.size : Int) < 1 := by omega
 by_cases h12 : 12 < s.size
 · have hlt : (12 : Int) < (s.size : Int) := by omega
   go_enter Tryz.func79, Tryz.ntmps79
   go_wp2; go_ret; exact ⟨ret_bool (name_no (fun h => by have := h.2.1; omega)), Below.refl _ _⟩
 have hle : ¬ (12 : Int) < (s.size : Int) := by omega
 go_enter Tryz.func79, Tryz.ntmps79
 go_wp2
 go_loopg [3] s.size (fun g i wr => ∃ k : Nat, k + g = s.size ∧ i = .int .i64 k ∧ Hid (∀ i (h : i < k) (h2 : i < s.size), nb i s[i]) ∧ w = wr)
 case atStart => exact ⟨0, by omega, rfl, Lib.hid (fun i h => absurd h (Nat.not_lt_zero _)), rfl⟩
 case round =>
  obtain ⟨k, hk, rfl, HA, rfl⟩ := hrel
  by_cases hlt : k < s.size
  case neg =>
   go_wp2; go_ret; exact ⟨ret_bool (name_yes ⟨by omega, by omega, fun i h => HA.out i (by omega) h⟩), Below.refl _ _⟩
  have k0 : (0 : Int) ≤ (k : Int) := by omega
  have k1 : (k : Int) < (s.size : Int) := by omega
  have hb := s[k].toNat_lt; obtain ⟨b, hbb⟩ : ∃ b : Nat, b = s[k].toNat := ⟨_, rfl⟩; have HBB := Lib.hid hbb; have hz : (97 ≤ b ∧ b ≤ 122) ∨ (b = 45) ∨ (48 ≤ b ∧ b ≤ 57) ∨ (b < 48 ∧ b ≠ 45) ∨ (57 < b ∧ b < 97) ∨ (122 < b) := by omega
  rcases hz with ⟨q1, q2⟩ | q1 | ⟨q1, q2⟩ | ⟨q1, q2⟩ | ⟨q1, q2⟩ | q1
  · have g1 : (97 : Int) ≤ (s[k].toNat : Int) := by omega
    have g2 : (s[k].toNat : Int) ≤ 122 := by omega
    have g3 : (48 : Int) ≤ (s[k].toNat : Int) := by omega
    have g4 : decide ((s[k].toNat : Int) ≤ 57) = false := by simp; omega
    have g5 : ((s[k].toNat : Int) == 45) = false := by simp; omega
    have HQ := Lib.hid (show nb k s[k] by unfold nb; omega); clear q1 q2 hb hbb; go_wp2
    go_roundg (s.size - (k + 1))
    case measure => omega
    case rel =>
     refine ⟨k + 1, by omega, by go_num, Lib.hid (fun i h h2 => ?_), rfl⟩
     by_cases e : i = k
     · subst e; exact HQ.out
     · exact HA.out i (by omega) h2
  · have g1 : (s[k].toNat : Int) < 97 := by omega
    have g3 : (s[k].toNat : Int) < 48 := by omega
    have g5 : ((s[k].toNat : Int) == 45) = true := by simp; omega
    by_cases kz : k = 0
    · have kz' : ((k : Int) == 0) = true := by simp [kz]
      have HN := Lib.hid (show nameC s = false from name_no (fun h => by have := h.2.2 k hlt; unfold nb at this; omega)); clear q1 hb hbb kz
      (try clear q2)
      go_wp2; go_ret; exact ⟨ret_bool HN.out, Below.refl _ _⟩
    · have kz' : ((k : Int) == 0) = false := by simp; omega
      have HQ := Lib.hid (show nb k s[k] by unfold nb; omega); clear q1 hb hbb kz
      (try clear q2)
      go_wp2
      go_roundg (s.size - (k + 1))
      case measure => omega
      case rel =>
       refine ⟨k + 1, by omega, by go_num, Lib.hid (fun i h h2 => ?_), rfl⟩
       by_cases e : i = k
       · subst e; exact HQ.out
       · exact HA.out i (by omega) h2
  · have g1 : (s[k].toNat : Int) < 97 := by omega
    have g3 : (48 : Int) ≤ (s[k].toNat : Int) := by omega
    have g4 : (s[k].toNat : Int) ≤ 57 := by omega
    by_cases kz : k = 0
    · have kz' : ((k : Int) == 0) = true := by simp [kz]
      have HN := Lib.hid (show nameC s = false from name_no (fun h => by have := h.2.2 k hlt; unfold nb at this; omega)); clear q1 hb hbb kz
      (try clear q2)
      go_wp2; go_ret; exact ⟨ret_bool HN.out, Below.refl _ _⟩
    · have kz' : ((k : Int) == 0) = false := by simp; omega
      have HQ := Lib.hid (show nb k s[k] by unfold nb; omega); clear q1 hb hbb kz
      (try clear q2)
      go_wp2
      go_roundg (s.size - (k + 1))
      case measure => omega
      case rel =>
       refine ⟨k + 1, by omega, by go_num, Lib.hid (fun i h h2 => ?_), rfl⟩
       by_cases e : i = k
       · subst e; exact HQ.out
       · exact HA.out i (by omega) h2
  · have g1 : (s[k].toNat : Int) < 97 := by omega
    have g3 : (s[k].toNat : Int) < 48 := by omega
    have g5 : ((s[k].toNat : Int) == 45) = false := by simp; omega
    have HN := Lib.hid (show nameC s = false from name_no (fun h => by have := h.2.2 k hlt; unfold nb at this; omega)); clear q1 hb hbb
    (try clear q2)
    by_cases kz : k = 0
    · have kz' : ((k : Int) == 0) = true := by simp [kz]
      clear kz; go_wp2; go_ret; exact ⟨ret_bool HN.out, Below.refl _ _⟩
    · have kz' : ((k : Int) == 0) = false := by simp; omega
      clear kz; go_wp2; go_ret; exact ⟨ret_bool HN.out, Below.refl _ _⟩
  · have g1 : (s[k].toNat : Int) < 97 := by omega
    have g3 : (48 : Int) ≤ (s[k].toNat : Int) := by omega
    have g4 : decide ((s[k].toNat : Int) ≤ 57) = false := by simp; omega
    have g5 : ((s[k].toNat : Int) == 45) = false := by simp; omega
    have HN := Lib.hid (show nameC s = false from name_no (fun h => by have := h.2.2 k hlt; unfold nb at this; omega)); clear q1 hb hbb
    (try clear q2)
    by_cases kz : k = 0
    · have kz' : ((k : Int) == 0) = true := by simp [kz]
      clear kz; go_wp2; go_ret; exact ⟨ret_bool HN.out, Below.refl _ _⟩
    · have kz' : ((k : Int) == 0) = false := by simp; omega
      clear kz; go_wp2; go_ret; exact ⟨ret_bool HN.out, Below.refl _ _⟩
  · have g1 : (97 : Int) ≤ (s[k].toNat : Int) := by omega
    have g2 : decide ((s[k].toNat : Int) ≤ 122) = false := by simp; omega
    have g3 : (48 : Int) ≤ (s[k].toNat : Int) := by omega
    have g4 : decide ((s[k].toNat : Int) ≤ 57) = false := by simp; omega
    have g5 : ((s[k].toNat : Int) == 45) = false := by simp; omega
    have HN := Lib.hid (show nameC s = false from name_no (fun h => by have := h.2.2 k hlt; unfold nb at this; omega)); clear q1 hb hbb
    (try clear q2)
    by_cases kz : k = 0
    · have kz' : ((k : Int) == 0) = true := by simp [kz]
      clear kz; go_wp2; go_ret; exact ⟨ret_bool HN.out, Below.refl _ _⟩
    · have kz' : ((k : Int) == 0) = false := by simp; omega
      clear kz; go_wp2; go_ret; exact ⟨ret_bool HN.out, Below.refl _ _⟩
end Go.Proofs.YtifcelebfagjbaaGreatDoor
namespace Go.Tw.Po
open Go.RowKit Go.Tw Go.Sort Go.Tw.Ord Go.Proofs.YtifcelebfagjbaaGreatDoor
structure Bk where
 es : List Ent
 ds : List Chg
def addP : List SI → ByteArray → Int → List SI
 | [], a, n => [⟨a, n⟩]
 | p :: l, a, n => if p.s = a then ⟨p.s, p.n + n⟩ :: l else p :: addP l a n
def sAcc : ByteArray := ⟨#[97, 99, 99, 111, 117, 110, 116, 58]⟩
def sCase : ByteArray := ⟨#[99, 97, 115, 101, 58]⟩
def sRev : ByteArray := ⟨#[114, 101, 118, 101, 110, 117, 101, 58]⟩
def sDash : ByteArray := ⟨#[45]⟩
def sCash : ByteArray := ⟨#[99, 97, 115, 104]⟩
def sPay : ByteArray := ⟨#[112, 97, 121]⟩
def debC (c : List Acc) (x : Chg) : ByteArray := match ownerO c x.veh x.tm with
 | some nm => sAcc ++ nm
 | none => sCase ++ x.veh
def creC (x : Chg) : ByteArray := sRev ++ orS [x.sys, sDash]
def moveP (c : List Acc) (l : List SI) (x : Chg) (n : Int) : List SI := addP (addP l (debC c x) n) (creC x) (-n)
def cleanP (l : List SI) : List SI := l.filter fun p => !decide (p.n = 0)
def balE (a : ByteArray) (e : Ent) : Int := sumL (e.ps.filter fun p => decide (p.s = a))
def balL (a : ByteArray) (l : List Ent) : Int := (l.map (balE a)).sum
noncomputable def postL (es : List Ent) (e : Ent) : List Ent × Int :=
 if entC e ≠ 0 then (es, entC e) else if (es.any fun x => decide (x.key = e.key)) = true then (es, 9) else if (e.ps.all fun p => fitsM (balL p.s es + balE p.s e)) = true then (es ++ [e], 0) else (es, 13)
noncomputable def enterL (es : List Ent) (k : ByteArray) (t : Int) (ps : List SI) : List Ent × Int :=
 if cleanP ps = [] then (es, 0) else postL es ⟨k, t, cleanP ps⟩
def ltB (a b : ByteArray) : Bool := ltL (codes a) (codes b)
def putP : List Chg → Chg → List Chg
 | [], x => [x]
 | y :: l, x => if y.key = x.key then x :: l else if ltB x.key y.key = true then x :: y :: l else y :: putP l x
def momC (t : Int) : Bool := decide (0 ≤ t) && decide (t ≤ 68719476736)
def postsA (c : List Acc) (ds : List Chg) (x : Chg) : List SI := match fndC ds x.key with
 | some o => moveP c (moveP c [] o (-o.c)) x x.c
 | none => moveP c [] x x.c
noncomputable def applyP (c : List Acc) (b : Bk) (x : Chg) : Bk × Int :=
 if chkC x ≠ 0 then (b, chkC x) else
 let r := enterL b.es (keyC x.key (verN b.es x.key)) x.tm (postsA c b.ds x)
 if r.2 ≠ 0 then (b, r.2) else (⟨r.1, putP b.ds x⟩, 0)
noncomputable def voidP (c : List Acc) (b : Bk) (s : ByteArray) (t : Int) : Bk × Int :=
 match fndC b.ds s with
 | none => (b, 10)
 | some o => if momC t = false then (b, 12) else
  let r := enterL b.es (keyC s (verN b.es s)) t (moveP c [] o (-o.c))
  if r.2 ≠ 0 then (b, r.2) else (⟨r.1, b.ds.filter fun x => !decide (x.key = s)⟩, 0)
def payN (es : List Ent) : Nat := (es.filter fun e => Lib.hasPrefix (kb e.key) (kb sPay ++ [35])).length
noncomputable def payP (b : Bk) (nm : ByteArray) (n t : Int) : Bk × Int :=
 if nameC nm = false then (b, 6) else if n < 1 ∨ 1125899906842624 < n then (b, 13) else if momC t = false then (b, 12) else
 let r := postL b.es ⟨keyC sPay (payN b.es), t, [⟨sCash, n⟩, ⟨sAcc ++ nm, -n⟩]⟩
 if r.2 ≠ 0 then (b, r.2) else (⟨r.1, b.ds⟩, 0)
noncomputable def runA (c : List Acc) : Bk → List Chg → Bk × Int
 | b, [] => (b, 0)
 | b, x :: l => if (applyP c b x).2 ≠ 0 then (b, (applyP c b x).2) else runA c (applyP c b x).1 l
noncomputable def runV (c : List Acc) (t : Int) : Bk → List ByteArray → Bk × Int
 | b, [] => (b, 0)
 | b, s :: l => if (voidP c b s t).2 ≠ 0 then (b, (voidP c b s t).2) else runV c t (voidP c b s t).1 l
def keysC (l : List Chg) : List ByteArray := l.map Chg.key
open Classical in
noncomputable def dupK (l : List Chg) : Bool := !decide (keysC l).Nodup
def sortC (l : List Chg) : List Chg := sortL chgC l
def goneK (ds l : List Chg) : List ByteArray := (keysC ds).filter fun s => !hasS (keysC l) s
noncomputable def syncP (c : List Acc) (b : Bk) (l : List Chg) (t : Int) : Bk × Int :=
 if dupK l = true then (b, 9) else
 let r := runA c b (sortC l)
 if r.2 ≠ 0 then (b, r.2) else
 let q := runV c t r.1 (goneK r.1.ds l)
 if q.2 ≠ 0 then (b, q.2) else (q.1, 0)
def SortK (l : List Chg) : Prop := l.Pairwise fun x y => ltB x.key y.key = true
theorem ltB_irrefl (a : ByteArray) : ltB a a = false := ltL_irrefl _
theorem ltB_ne {a b : ByteArray} (h : ltB a b = true) : a ≠ b := by rintro rfl; rw [ltB_irrefl] at h; cases h
theorem ltB_trans {a b c : ByteArray} (h1 : ltB a b = true) (h2 : ltB b c = true) : ltB a c = true := ltL_trans _ _ _ h1 h2
theorem ltB_asymm {a b : ByteArray} (h : ltB a b = true) : ltB b a = false := ltL_asymm h
theorem ltB_total {a b : ByteArray} (h1 : ltB a b = false) (h2 : ltB b a = false) : a = b := codes_inj (ltL_total _ _ h1 h2)
theorem SortK.nodup {l : List Chg} (h : SortK l) : (keysC l).Nodup := List.pairwise_map.2 (h.imp fun h => ltB_ne h)
theorem put_some {l : List Chg} {x : Chg} {k : Nat} (hk : k < l.length) (he : l[k].key = x.key) (hs : SortK l) : l.set k x = putP l x := by
 induction l generalizing k with
 | nil => simp at hk
 | cons y l ih =>
  rw [putP]; have hs' := List.pairwise_cons.1 hs
  cases k with
  | zero => rw [if_pos (by simpa using he)]; rfl
  | succ k =>
   have hk' : k < l.length := by simpa using hk
   have he' : l[k].key = x.key := by rwa [List.getElem_cons_succ] at he
   have hlt := hs'.1 l[k] (List.getElem_mem _); rw [he'] at hlt; rw [if_neg (ltB_ne hlt), ltB_asymm hlt]; simp only [Bool.false_eq_true, if_false, List.set_cons_succ]; rw [ih hk' he' hs'.2]
theorem put_none {l : List Chg} {x : Chg} {k : Nat} (hk : k ≤ l.length) (hn : ∀ y ∈ l, y.key ≠ x.key) (h1 : ∀ j (hj : j < l.length), j < k → ltB l[j].key x.key = true) (h2 : ∀ h : k < l.length, ltB l[k].key x.key = false) :
  l.take k ++ x :: l.drop k = putP l x := by
 induction l generalizing k with
 | nil => simp only [List.length_nil, Nat.le_zero] at hk; subst hk; rfl
 | cons y l ih =>
  rw [putP, if_neg (hn y (List.mem_cons_self))]
  cases k with
  | zero =>
   have hq := h2 (by simp); simp only [List.getElem_cons_zero] at hq; rw [if_pos]
   · rfl
   · cases hz : ltB x.key y.key with
     | true => rfl
     | false => exact absurd (ltB_total hq hz) (hn y List.mem_cons_self)
  | succ k =>
   have h0 := h1 0 (by simp) (by omega); simp only [List.getElem_cons_zero] at h0; rw [ltB_asymm h0]; simp only [Bool.false_eq_true, if_false, List.take_succ_cons, List.drop_succ_cons, List.cons_append]; rw [ih (by simpa using hk) (fun z hz => hn z (List.mem_cons_of_mem _ hz)) (fun j hj hjk => by have := h1 (j + 1) (by simpa using hj) (by omega); rwa [List.getElem_cons_succ] at this) (fun h => by have := h2 (by simpa using h); rwa [List.getElem_cons_succ] at this)]
theorem put_mem {l : List Chg} {x : Chg} (z : Chg) (hz : z ∈ putP l x) : z = x ∨ z ∈ l := by
 induction l with
 | nil => rw [putP] at hz; exact .inl (by simpa using hz)
 | cons y l ih =>
  rw [putP] at hz
  split at hz
  · rcases List.mem_cons.1 hz with h | h
    · exact .inl h
    · exact .inr (List.mem_cons_of_mem _ h)
  · split at hz
    · rcases List.mem_cons.1 hz with h | h
      · exact .inl h
      · exact .inr h
    · rcases List.mem_cons.1 hz with h | h
      · exact .inr (by rw [h]; exact List.mem_cons_self)
      · rcases ih h with h | h
        · exact .inl h
        · exact .inr (List.mem_cons_of_mem _ h)
theorem put_sorted {l : List Chg} {x : Chg} (hs : SortK l) : SortK (putP l x) := by
 induction l with
 | nil => exact List.pairwise_singleton _ _
 | cons y l ih =>
  have hs' := List.pairwise_cons.1 hs; rw [putP]
  split
  · rename_i he
    exact List.pairwise_cons.2 ⟨fun z hz => by rw [← he]; exact hs'.1 z hz, hs'.2⟩
  · rename_i hne
    split
    · rename_i hlt
      refine List.pairwise_cons.2 ⟨fun z hz => ?_, hs⟩
      rcases List.mem_cons.1 hz with rfl | hz
      · exact hlt
      · exact ltB_trans hlt (hs'.1 z hz)
    · rename_i hlt
      refine List.pairwise_cons.2 ⟨fun z hz => ?_, ih hs'.2⟩
      rcases put_mem z hz with rfl | hz
      · cases hq : ltB y.key z.key with
        | true => rfl
        | false => exact absurd (ltB_total hq (by simpa using hlt)) hne
      · exact hs'.1 z hz
theorem put_ref {l : List Chg} {x : Chg} (hs : SortK l) :
  putP l x = (l.filter fun y => ltB y.key x.key) ++ x :: (l.filter fun y => ltB x.key y.key) := by
 induction l with
 | nil => rfl
 | cons y l ih =>
  have hs' := List.pairwise_cons.1 hs
  have tail : ∀ (_ : ltB x.key y.key = true ∨ x.key = y.key), (l.filter fun z => ltB z.key x.key) = [] ∧ (l.filter fun z => ltB x.key z.key) = l := fun hq => by
   have hz : ∀ z ∈ l, ltB x.key z.key = true := fun z hz => by
    rcases hq with hq | hq
    · exact ltB_trans hq (hs'.1 z hz)
    · rw [hq]; exact hs'.1 z hz
   exact ⟨List.filter_eq_nil_iff.2 fun z hz' => by rw [ltB_asymm (hz z hz')]; simp, List.filter_eq_self.2 hz⟩
  rw [putP]
  split
  · rename_i he
    obtain ⟨t1, t2⟩ := tail (.inr he.symm); rw [List.filter_cons, List.filter_cons, he, ltB_irrefl]; simp only [Bool.false_eq_true, if_false]; rw [t1, t2]; rfl
  · rename_i hne
    split
    · rename_i hlt
      obtain ⟨t1, t2⟩ := tail (.inl hlt); rw [List.filter_cons, List.filter_cons, ltB_asymm hlt, hlt]; simp only [Bool.false_eq_true, if_false, if_true]; rw [t1, t2]; rfl
    · rename_i hlt
      have h1 : ltB y.key x.key = true := by
       cases hq : ltB y.key x.key with
       | true => rfl
       | false => exact absurd (ltB_total hq (by simpa using hlt)) hne
      rw [List.filter_cons, List.filter_cons, h1, ltB_asymm h1]; simp only [Bool.false_eq_true, if_false, if_true, List.cons_append]; rw [ih hs'.2]
theorem key_inj : ∀ {l : List Chg}, (keysC l).Nodup → ∀ {a b : Chg}, a ∈ l → b ∈ l → a.key = b.key → a = b
 | [], _, _, _, ha, _, _ => by cases ha
 | z :: l, hn, a, b, ha', hb', hk => by
  have hn' := List.nodup_cons.1 (show (z.key :: keysC l).Nodup from hn)
  rcases List.mem_cons.1 ha' with e1 | e1
  · rcases List.mem_cons.1 hb' with e2 | e2
    · rw [e1, e2]
    · exact absurd (List.mem_map.2 ⟨b, e2, by rw [← hk, e1]⟩) hn'.1
  · rcases List.mem_cons.1 hb' with e2 | e2
    · exact absurd (List.mem_map.2 ⟨a, e1, by rw [hk, e2]⟩) hn'.1
    · exact key_inj hn'.2 e1 e2 hk
theorem chgC_zero {x y : Chg} (h : chgC x y = 0) : x.key = y.key := by
 have := orL_zero (l := [cmpI x.tm y.tm, cmpS x.key y.key]) h; exact cmpS_zero (this _ (by simp))
theorem sort_uniq {l l' : List Chg} (hn : (keysC l).Nodup) (hp : l'.Perm l) (hs : l'.Pairwise fun x y => chgC x y ≤ 0) : l' = sortC l := by
 have hp2 : (sortC l).Perm l := sortL_perm l; refine List.Perm.eq_of_pairwise (le := fun x y => chgC x y ≤ 0) (fun a b ha hb h1 h2 => ?_) hs (sortL_sorted chgC_cmp l) (hp.trans hp2.symm); exact key_inj hn (hp.mem_iff.1 ha) (hp2.mem_iff.1 hb) (chgC_zero (by have := chgC_cmp.anti a b; omega))
/-! ### Amounts -/
theorem addP_len (l : List SI) (a : ByteArray) (n : Int) : (addP l a n).length ≤ l.length + 1 := by
 induction l with
 | nil => simp [addP]
 | cons p l ih =>
  rw [addP]
  split
  · simp
  · simp; omega
def Amt (m : Int) (l : List SI) : Prop := ∀ p ∈ l, -m ≤ p.n ∧ p.n ≤ m
theorem Amt.mono {m m' : Int} {l : List SI} (h : Amt m l) (hm : m ≤ m') : Amt m' l := fun p hp => by have := h p hp; omega
theorem addP_amt {m k : Int} {l : List SI} {a : ByteArray} {n : Int} (h : Amt m l) (hm : 0 ≤ m) (h1 : -k ≤ n) (h2 : n ≤ k) : Amt (m + k) (addP l a n) := by
 induction l with
 | nil => intro p hp; rw [addP] at hp; obtain rfl := List.mem_singleton.1 hp; simp only; omega
 | cons q l ih =>
  rw [addP]; have hq := h q List.mem_cons_self; have hl : Amt m l := fun p hp => h p (List.mem_cons_of_mem _ hp)
  split
  · intro p hp
    rcases List.mem_cons.1 hp with rfl | hp
    · simp only; omega
    · have := hl p hp; omega
  · intro p hp
    rcases List.mem_cons.1 hp with rfl | hp
    · omega
    · exact ih hl p hp
theorem nil_amt (m : Int) : Amt m [] := fun p hp => by simp at hp
theorem clean_len (l : List SI) : (cleanP l).length ≤ l.length := List.length_filter_le _ _
end Go.Tw.Po
namespace Go.Tw.Po
open Go.RowKit Go.Tw Go.Sort Go.Tw.Ord Go.Proofs.YtifcelebfagjbaaGreatDoor
def CfOk (c : List Acc) : Prop := ∀ a ∈ c, a.nm.size ≤ 12
structure EOk (e : Ent) : Prop where
 key : e.key.size ≤ 100
 ps : e.ps.length ≤ 4
 fit : Fit e.ps
structure COk (x : Chg) : Prop where
 key : x.key.size ≤ 60
 veh : x.veh.size ≤ 30
 sys : x.sys.size ≤ 30
 ls : x.ls.length ≤ 12
structure BOk (L : List Chg) (N : Nat) (b : Bk) : Prop where
 few : L.length ≤ 8
 len : b.es.length ≤ N
 es : ∀ e ∈ b.es, EOk e
 sort : SortK b.ds
 mem : ∀ x ∈ b.ds, x ∈ L
 ok : ∀ x ∈ L, COk x
 chk : ∀ x ∈ b.ds, chkC x = 0
theorem BOk.mono {L : List Chg} {N M : Nat} {b : Bk} (h : BOk L N b) (hm : N ≤ M) : BOk L M b := ⟨h.few, Nat.le_trans h.len hm, h.es, h.sort, h.mem, h.ok, h.chk⟩
theorem BOk.cok {L : List Chg} {N : Nat} {b : Bk} (h : BOk L N b) : ∀ x ∈ b.ds, COk x := fun x hx => h.ok x (h.mem x hx)
theorem chk_facts {x : Chg} (h : chkC x = 0) : x.key.size ≠ 0 ∧ x.veh.size ≠ 0 ∧ 0 ≤ x.cls ∧ x.cls ≤ 9 ∧ 0 ≤ x.tm ∧ x.tm ≤ 68719476736 ∧ 0 ≤ x.c ∧ x.c ≤ 1125899906842624 ∧ Fit x.ls ∧ x.c = sumL x.ls := by
 unfold chkC at h
 by_cases h1 : x.key.size = 0 ∨ x.veh.size = 0
 · rw [if_pos h1] at h; omega
 rw [if_neg h1] at h
 by_cases h2 : x.cls < 0 ∨ 9 < x.cls
 · rw [if_pos h2] at h; omega
 rw [if_neg h2] at h
 by_cases h3 : x.tm < 0 ∨ 68719476736 < x.tm
 · rw [if_pos h3] at h; omega
 rw [if_neg h3] at h
 by_cases h4 : (x.ls.all fun l => fitsM l.n) = false
 · rw [if_pos h4] at h; omega
 rw [if_neg h4] at h
 by_cases h5 : x.c < 0 ∨ 1125899906842624 < x.c
 · rw [if_pos h5] at h; omega
 rw [if_neg h5] at h
 by_cases h6 : x.c = sumL x.ls
 · refine ⟨fun e => h1 (.inl e), fun e => h1 (.inr e), ?_, ?_, ?_, ?_, ?_, ?_, fit_all.1 (by simpa using h4), h6⟩ <;> omega
 · rw [if_pos h6] at h; omega
theorem ent_facts {e : Ent} (h : entC e = 0) : fieldC e.key = true ∧ 0 ≤ e.tm ∧ e.tm ≤ 68719476736 ∧ Fit e.ps ∧ sumL e.ps = 0 := by
 unfold entC at h
 by_cases h1 : fieldC e.key = false
 · rw [if_pos h1] at h; omega
 rw [if_neg h1] at h
 by_cases h2 : e.tm < 0 ∨ 68719476736 < e.tm
 · rw [if_pos h2] at h; omega
 rw [if_neg h2] at h
 by_cases h3 : e.ps.length = 0
 · rw [if_pos h3] at h; omega
 rw [if_neg h3] at h
 by_cases h4 : 1024 < e.ps.length
 · rw [if_pos h4] at h; omega
 rw [if_neg h4] at h; unfold postsC at h
 by_cases h5 : orL (e.ps.map postE) ≠ 0
 · rw [if_pos h5] at h; exact absurd h h5
 rw [if_neg h5] at h; have h5' : orL (e.ps.map postE) = 0 := by simpa using h5
 by_cases h6 : sumL e.ps ≠ 0
 · rw [if_pos h6] at h; omega
 refine ⟨by simpa using h1, by omega, by omega, fun p hp => ?_, by simpa using h6⟩; have := orL_zero h5' (postE p) (List.mem_map.2 ⟨p, hp, rfl⟩); unfold postE at this
 by_cases q1 : fieldC p.s = false
 · rw [if_pos q1] at this; omega
 rw [if_neg q1] at this
 by_cases q2 : p.n = 0
 · rw [if_pos q2] at this; omega
 rw [if_neg q2] at this
 by_cases q3 : fitsM p.n = false
 · rw [if_pos q3] at this; omega
 simpa using q3
theorem post_facts {es es' : List Ent} {e : Ent} (h : postL es e = (es', 0)) : es' = es ++ [e] ∧ entC e = 0 ∧ (∀ x ∈ es, x.key ≠ e.key) := by
 unfold postL at h
 by_cases h1 : entC e ≠ 0
 · rw [if_pos h1] at h; exact absurd (Prod.mk.inj h).2 h1
 rw [if_neg h1] at h
 by_cases h2 : (es.any fun x => decide (x.key = e.key)) = true
 · rw [if_pos h2] at h; exact absurd (Prod.mk.inj h).2 (by decide)
 rw [if_neg h2] at h
 by_cases h3 : (e.ps.all fun p => fitsM (balL p.s es + balE p.s e)) = true
 · rw [if_pos h3] at h
   refine ⟨(Prod.mk.inj h).1.symm, by simpa using h1, fun x hx q => h2 (List.any_eq_true.2 ⟨x, hx, by simpa using q⟩)⟩
 · rw [if_neg h3] at h; exact absurd (Prod.mk.inj h).2 (by decide)
theorem post_none {es : List Ent} {e : Ent} {z : Int} {es' : List Ent} (h : postL es e = (es', z)) (hz : z ≠ 0) : es' = es := by
 unfold postL at h
 repeat' split at h
 all_goals first | exact (Prod.mk.inj h).1.symm | exact absurd (Prod.mk.inj h).2.symm hz
theorem enter_facts {es es' : List Ent} {k : ByteArray} {t : Int} {ps : List SI} (h : enterL es k t ps = (es', 0)) : (cleanP ps = [] ∧ es' = es) ∨ (es' = es ++ [⟨k, t, cleanP ps⟩] ∧ entC ⟨k, t, cleanP ps⟩ = 0 ∧ ∀ x ∈ es, x.key ≠ k) := by
 unfold enterL at h
 by_cases h1 : cleanP ps = []
 · rw [if_pos h1] at h; exact .inl ⟨h1, (Prod.mk.inj h).1.symm⟩
 · rw [if_neg h1] at h; exact .inr (post_facts h)
theorem nodup_le {α : Type} [BEq α] [LawfulBEq α] : ∀ {l m : List α}, l.Nodup → (∀ x ∈ l, x ∈ m) → l.length ≤ m.length
 | [], _, _, _ => Nat.zero_le _
 | x :: l, m, hn, h => by
  have hn' := List.nodup_cons.1 hn; have hx := h x List.mem_cons_self; have ih := nodup_le (l := l) (m := m.erase x) hn'.2 (fun y hy => (List.mem_erase_of_ne (fun (e : y = x) => hn'.1 (e ▸ hy))).2 (h y (List.mem_cons_of_mem _ hy))); have := List.length_erase_of_mem hx; have hp := List.length_pos_of_mem hx; rw [List.length_cons]
  omega
theorem BOk.ds {L : List Chg} {N : Nat} {b : Bk} (h : BOk L N b) : b.ds.length ≤ 8 := by
 have hnd : b.ds.Nodup := List.Pairwise.imp (fun {x y} (q : ltB x.key y.key = true) (e : x = y) => ltB_ne q (by rw [e])) (show b.ds.Pairwise fun x y => ltB x.key y.key = true from h.sort); have := nodup_le hnd h.mem; have := h.few
 omega
theorem keyC_size {s : ByteArray} {n : Int} (hs : s.size ≤ 60) (hn : i64ok n) : (keyC s n).size ≤ 81 := by
 have := fmt_size hn; unfold keyC; rw [ByteArray.size_append, ByteArray.size_append]
 show s.size + 1 + _ ≤ 81
 omega
theorem moveP_len (c : List Acc) (l : List SI) (x : Chg) (n : Int) : (moveP c l x n).length ≤ l.length + 2 := by
 unfold moveP; have h1 := addP_len (addP l (debC c x) n) (creC x) (-n); have h2 := addP_len l (debC c x) n
 omega
theorem moveP_amt {c : List Acc} {m : Int} {l : List SI} {x : Chg} {n : Int} (h : Amt m l) (hm : 0 ≤ m) (h1 : -1125899906842624 ≤ n) (h2 : n ≤ 1125899906842624) : Amt (m + 2251799813685248) (moveP c l x n) := by
 unfold moveP; have := addP_amt (a := creC x) (n := -n) (k := 1125899906842624) (addP_amt (a := debC c x) (k := 1125899906842624) h hm h1 h2) (by omega) (by omega) (by omega); exact this.mono (by omega)
theorem postsA_len (c : List Acc) (ds : List Chg) (x : Chg) : (postsA c ds x).length ≤ 4 := by
 unfold postsA
 split
 · have h1 := moveP_len c (moveP c [] ‹Chg› (-(‹Chg›).c)) x x.c
   have h2 := moveP_len c [] ‹Chg› (-(‹Chg›).c); simp only [List.length_nil] at h2
   omega
 · have h2 := moveP_len c [] x x.c
   simp only [List.length_nil] at h2
   omega
theorem enter_es {es es' : List Ent} {N : Nat} {k : ByteArray} {t : Int} {ps : List SI} (h : enterL es k t ps = (es', 0)) (hl : es.length ≤ N) (he : ∀ e ∈ es, EOk e) (hk : k.size ≤ 100) (hp : ps.length ≤ 4) : es'.length ≤ N + 1 ∧ ∀ e ∈ es', EOk e := by
 rcases enter_facts h with ⟨-, rfl⟩ | ⟨rfl, h1, -⟩
 · exact ⟨by omega, he⟩
 · refine ⟨by simp; omega, fun e hm => ?_⟩
   rcases List.mem_append.1 hm with hm | hm
   · exact he e hm
   · rw [List.mem_singleton] at hm
     subst hm; exact ⟨hk, Nat.le_trans (clean_len ps) hp, (ent_facts h1).2.2.2.1⟩
theorem n_ok {n : Nat} {N : Nat} (h : n ≤ N) (hN : N ≤ 1000) : i64ok (n : Int) := by unfold i64ok; omega
inductive ApplyR (c : List Acc) (b : Bk) (x : Chg) : Bk × Int → Prop
 | chk (h : chkC x ≠ 0) : ApplyR c b x (b, chkC x)
 | bad {z : Int} (h : chkC x = 0) (hz : z ≠ 0) (he : enterL b.es (keyC x.key (verN b.es x.key)) x.tm (postsA c b.ds x) = (b.es, z)) : ApplyR c b x (b, z)
 | ok {es' : List Ent} (h : chkC x = 0) (he : enterL b.es (keyC x.key (verN b.es x.key)) x.tm (postsA c b.ds x) = (es', 0)) : ApplyR c b x (⟨es', putP b.ds x⟩, 0)
theorem enter_none {es es' : List Ent} {k : ByteArray} {t : Int} {ps : List SI} {z : Int} (h : enterL es k t ps = (es', z)) (hz : z ≠ 0) : es' = es := by
 unfold enterL at h
 by_cases h1 : cleanP ps = []
 · rw [if_pos h1] at h; exact absurd (Prod.mk.inj h).2.symm hz
 · rw [if_neg h1] at h; exact post_none h hz
theorem apply_ways (c : List Acc) (b : Bk) (x : Chg) : ApplyR c b x (applyP c b x) := by
 unfold applyP
 by_cases h : chkC x ≠ 0
 · rw [if_pos h]; exact .chk h
 rw [if_neg h]; have h' : chkC x = 0 := by simpa using h
 obtain ⟨⟨es', z⟩, hr⟩ : ∃ r, enterL b.es (keyC x.key (verN b.es x.key)) x.tm (postsA c b.ds x) = r := ⟨_, rfl⟩; rw [hr]
 by_cases hz : z ≠ 0
 · simp only [if_pos hz]
   have := enter_none hr hz; subst this; exact .bad h' hz hr
 · have hz' : z = 0 := by simpa using hz
   subst hz'; simp only [ne_eq, not_true_eq_false, if_false]; exact .ok h' hr
inductive VoidR (c : List Acc) (b : Bk) (s : ByteArray) (t : Int) : Bk × Int → Prop
 | none (h : fndC b.ds s = none) : VoidR c b s t (b, 10)
 | time {o : Chg} (h : fndC b.ds s = some o) (ht : momC t = false) : VoidR c b s t (b, 12)
 | bad {o : Chg} {z : Int} (h : fndC b.ds s = some o) (ht : momC t = true) (hz : z ≠ 0) (he : enterL b.es (keyC s (verN b.es s)) t (moveP c [] o (-o.c)) = (b.es, z)) : VoidR c b s t (b, z)
 | ok {o : Chg} {es' : List Ent} (h : fndC b.ds s = some o) (ht : momC t = true) (he : enterL b.es (keyC s (verN b.es s)) t (moveP c [] o (-o.c)) = (es', 0)) : VoidR c b s t (⟨es', b.ds.filter fun x => !decide (x.key = s)⟩, 0)
theorem void_ways (c : List Acc) (b : Bk) (s : ByteArray) (t : Int) : VoidR c b s t (voidP c b s t) := by
 unfold voidP
 cases hf : fndC b.ds s with
 | none => exact .none hf
 | some o =>
  simp only
  by_cases ht : momC t = false
  · rw [if_pos ht]; exact .time hf ht
  rw [if_neg ht]; have ht' : momC t = true := by simpa using ht
  obtain ⟨⟨es', z⟩, hr⟩ : ∃ r, enterL b.es (keyC s (verN b.es s)) t (moveP c [] o (-o.c)) = r := ⟨_, rfl⟩; rw [hr]
  by_cases hz : z ≠ 0
  · simp only [if_pos hz]
    have := enter_none hr hz; subst this; exact .bad hf ht' hz hr
  · have hz' : z = 0 := by simpa using hz
    subst hz'; simp only [ne_eq, not_true_eq_false, if_false]; exact .ok hf ht' hr
theorem fnd_mem {l : List Chg} {s : ByteArray} {o : Chg} (h : fndC l s = some o) : o ∈ l ∧ o.key = s := by
 unfold fndC at h; exact ⟨List.mem_of_find?_eq_some h, by simpa using List.find?_some h⟩
theorem BOk.apply {L : List Chg} {N : Nat} {b : Bk} {c : List Acc} {x : Chg} (h : BOk L N b) (hN : N ≤ 1000) (hx : x ∈ L) : BOk L (N + 1) (applyP c b x).1 := by
 have hw := apply_ways c b x; generalize applyP c b x = r at hw
 cases hw with
 | chk _ => exact h.mono (Nat.le_succ _)
 | bad _ _ _ => exact h.mono (Nat.le_succ _)
 | ok h1 he =>
  have hv : verN b.es x.key ≤ N := Nat.le_trans ver_le h.len; have hk := keyC_size (h.ok x hx).key (n_ok hv hN); obtain ⟨g1, g2⟩ := enter_es he h.len h.es (Nat.le_trans hk (by omega)) (postsA_len c b.ds x); refine ⟨h.few, g1, g2, put_sorted h.sort, fun z hz => ?_, h.ok, fun z hz => ?_⟩
  · rcases put_mem z hz with rfl | hz
    · exact hx
    · exact h.mem z hz
  · rcases put_mem z hz with rfl | hz
    · exact h1
    · exact h.chk z hz
theorem BOk.void {L : List Chg} {N : Nat} {b : Bk} {c : List Acc} {s : ByteArray} {t : Int} (h : BOk L N b) (hN : N ≤ 1000) : BOk L (N + 1) (voidP c b s t).1 := by
 have hw := void_ways c b s t; generalize voidP c b s t = r at hw
 cases hw with
 | none _ => exact h.mono (Nat.le_succ _)
 | time _ _ => exact h.mono (Nat.le_succ _)
 | bad _ _ _ _ => exact h.mono (Nat.le_succ _)
 | @ok o es' hf ht he =>
  have hv : verN b.es s ≤ N := Nat.le_trans ver_le h.len; obtain ⟨om, ok⟩ := fnd_mem hf; have hk := keyC_size (s := s) (by rw [← ok]; exact (h.cok o om).key) (n_ok hv hN); obtain ⟨g1, g2⟩ := enter_es he h.len h.es (Nat.le_trans hk (by omega)) (Nat.le_trans (moveP_len c [] o (-o.c)) (by simp)); exact ⟨h.few, g1, g2, List.Pairwise.filter _ h.sort, fun z hz => h.mem z (List.mem_filter.1 hz).1, h.ok, fun z hz => h.chk z (List.mem_filter.1 hz).1⟩
theorem pay_le {es : List Ent} : payN es ≤ es.length := List.length_filter_le _ _
inductive PayR (b : Bk) (nm : ByteArray) (n t : Int) : Bk × Int → Prop
 | bad {z : Int} (hz : z ≠ 0) : PayR b nm n t (b, z)
 | ok {es' : List Ent} (hn : nameC nm = true) (h1 : 1 ≤ n) (h2 : n ≤ 1125899906842624) (he : postL b.es ⟨keyC sPay (payN b.es), t, [⟨sCash, n⟩, ⟨sAcc ++ nm, -n⟩]⟩ = (es', 0)) : PayR b nm n t (⟨es', b.ds⟩, 0)
theorem pay_ways (b : Bk) (nm : ByteArray) (n t : Int) : PayR b nm n t (payP b nm n t) := by
 unfold payP
 by_cases h1 : nameC nm = false
 · rw [if_pos h1]; exact .bad (by decide)
 rw [if_neg h1]
 by_cases h2 : n < 1 ∨ 1125899906842624 < n
 · rw [if_pos h2]; exact .bad (by decide)
 rw [if_neg h2]
 by_cases h3 : momC t = false
 · rw [if_pos h3]; exact .bad (by decide)
 rw [if_neg h3]; obtain ⟨⟨es', z⟩, hr⟩ : ∃ r, postL b.es ⟨keyC sPay (payN b.es), t, [⟨sCash, n⟩, ⟨sAcc ++ nm, -n⟩]⟩ = r := ⟨_, rfl⟩; rw [hr]
 by_cases hz : z ≠ 0
 · simp only [if_pos hz]; exact .bad hz
 · have hz' : z = 0 := by simpa using hz
   subst hz'; simp only [ne_eq, not_true_eq_false, if_false]; exact .ok (by simpa using h1) (by omega) (by omega) hr
theorem BOk.pay {L : List Chg} {N : Nat} {b : Bk} {nm : ByteArray} {n t : Int} (h : BOk L N b) (hN : N ≤ 1000) : BOk L (N + 1) (payP b nm n t).1 := by
 have hw := pay_ways b nm n t; generalize payP b nm n t = r at hw
 cases hw with
 | bad _ => exact h.mono (Nat.le_succ _)
 | ok hn h1 h2 he =>
  have hv : payN b.es ≤ N := Nat.le_trans pay_le h.len; have hk := keyC_size (s := sPay) (by decide) (n_ok hv hN); obtain ⟨rfl, g1, -⟩ := post_facts he; have hl := h.len; refine ⟨h.few, by simp; omega, fun e hm => ?_, h.sort, h.mem, h.ok, h.chk⟩
  rcases List.mem_append.1 hm with hm | hm
  · exact h.es e hm
  · rw [List.mem_singleton] at hm
    subst hm; exact ⟨Nat.le_trans hk (by omega), by simp, (ent_facts g1).2.2.2.1⟩
theorem BOk.runA {L : List Chg} {c : List Acc} : ∀ {m : List Chg} {N : Nat} {b : Bk}, BOk L N b → N + m.length ≤ 1000 → (∀ x ∈ m, x ∈ L) → BOk L (N + m.length) (runA c b m).1
 | [], _, _, h, _, _ => by rw [Po.runA]; exact h
 | x :: m, N, b, h, hN, hm => by
  rw [List.length_cons] at hN ⊢; rw [Po.runA]
  by_cases he : (applyP c b x).2 ≠ 0
  · rw [if_pos he]; exact h.mono (by omega)
  · rw [if_neg he]
    have := BOk.runA (c := c) (h.apply (c := c) (by omega) (hm x List.mem_cons_self)) (m := m) (by omega) (fun y hy => hm y (List.mem_cons_of_mem _ hy)); exact this.mono (by omega)
theorem BOk.runV {L : List Chg} {c : List Acc} {t : Int} : ∀ {m : List ByteArray} {N : Nat} {b : Bk}, BOk L N b → N + m.length ≤ 1000 → BOk L (N + m.length) (runV c t b m).1
 | [], _, _, h, _ => by rw [Po.runV]; exact h
 | x :: m, N, b, h, hN => by
  rw [List.length_cons] at hN ⊢; rw [Po.runV]
  by_cases he : (voidP c b x t).2 ≠ 0
  · rw [if_pos he]; exact h.mono (by omega)
  · rw [if_neg he]
    have := BOk.runV (c := c) (t := t) (h.void (c := c) (s := x) (t := t) (by omega)) (m := m) (by omega); exact this.mono (by omega)
theorem gone_len (ds l : List Chg) : (goneK ds l).length ≤ ds.length := by
 unfold goneK; have := List.length_filter_le (fun s => !hasS (keysC l) s) (keysC ds)
 simpa [keysC] using this
theorem BOk.sync {L : List Chg} {N : Nat} {b : Bk} {c : List Acc} {l : List Chg} {t : Int} (h : BOk L N b) (hN : N + 16 ≤ 1000) (hl : l.length ≤ 8) (hm : ∀ x ∈ l, x ∈ L) : BOk L (N + 16) (syncP c b l t).1 := by
 unfold syncP
 by_cases hd : dupK l = true
 · rw [if_pos hd]; exact h.mono (by omega)
 rw [if_neg hd]; have hs : (sortC l).length = l.length := sortL_len l; have h1 := BOk.runA (c := c) (m := sortC l) h (by omega) (fun x hx => hm x ((sortL_perm l).mem_iff.1 hx)); simp only; generalize Po.runA c b (sortC l) = r at h1
 by_cases e1 : r.2 ≠ 0
 · rw [if_pos e1]; exact h.mono (by omega)
 rw [if_neg e1]; have hg := gone_len r.1.ds l; have hd8 := h1.ds; have h2 := BOk.runV (c := c) (t := t) (m := goneK r.1.ds l) h1 (by omega); generalize Po.runV c t r.1 (goneK r.1.ds l) = q at h2
 by_cases e2 : q.2 ≠ 0
 · rw [if_pos e2]; exact h.mono (by omega)
 rw [if_neg e2]; exact h2.mono (by omega)
end Go.Tw.Po
namespace Go.Tw
open Go.RowKit
section
variable {P : Program}
theorem run_loadA {t : TypeId} {p : Addr} {A : Array Value} {n : Nat} {w : World} (hag : ∀ w, (isAgg t).run P w = .ok true w) (hsz : ∀ w, (sizeOf t).run P w = .ok n w) (hld : Sem.run P (loadCellsFrom p 0 n #[]) w = .ok A w) :
  Sem.run P (Instr.loadAt t (.pointer (some p))) w = .ok (.agg A) w := by
 unfold Instr.loadAt Instr.sureAddr loadVar; simp only [Sem.run_bind, Sem.run_pure, Result.andThen_ok, hag, if_true]; simp only [Result.andThen_ok, hsz, loadCells, hld]
theorem exec_loadA {o : Oper} {a : Act} {w : World} {x : Operand} {t : TypeId} (ho : o.op = .load t x) {p : Addr} {A : Array Value} {n : Nat} (hag : ∀ w, (isAgg t).run P w = .ok true w) (hsz : ∀ w, (sizeOf t).run P w = .ok n w)
  (hx : a.eval x = .pointer (some p)) (hld : Sem.run P (loadCellsFrom p 0 n #[]) w = .ok A w) : (execOp a.eval o).run P w = .ok (.value (.agg A)) w := by
 unfold execOp; simp only [ho, hx, Sem.run_bind, Sem.run_pure, Result.andThen_ok, run_loadA hag hsz hld]
theorem wpList_loadA {ops : Array Oper} {rest : List Oper} {o : Oper} {a : Act} {w : World} {Q : Exit → Act → World → Prop} (x : Operand) (hgd : o.guard = none) (t : TypeId) (ho : o.op = .load t x) {p : Addr} {A : Array Value} {n : Nat} (hag : ∀ w, (isAgg t).run P w = .ok true w) (hsz : ∀ w, (sizeOf t).run P w = .ok n w)
  (hx : a.eval x = .pointer (some p)) (hld : Sem.run P (loadCellsFrom p 0 n #[]) w = .ok A w) (h : wpList P ops Q rest (a.put o.dst (.agg A)) w) : wpList P ops Q (o :: rest) a w :=
 wpList_plain hgd fun _ hK => by
  unfold Oper.wp; rw [exec_loadA ho hag hsz hx hld]; exact hK _ _ h
theorem quiet_loadA {o : Oper} {a : Act} {C : World → Prop} {K : Act → Prop} {x : Operand} {t : TypeId} (ho : o.op = .load t x) {p : Addr} {A : Array Value} {n : Nat} (hag : ∀ w, (isAgg t).run P w = .ok true w) (hsz : ∀ w, (sizeOf t).run P w = .ok n w)
  (hx : a.eval x = .pointer (some p)) (hld : ∀ w, C w → Sem.run P (loadCellsFrom p 0 n #[]) w = .ok A w) (h : K (a.put o.dst (.agg A))) : o.quiet P a C K :=
 ⟨.agg A, fun w hw => by
  unfold Oper.quietAt; rw [exec_loadA ho hag hsz hx (hld w hw)]
  exact ⟨rfl, rfl⟩, h⟩
end
end Go.Tw
