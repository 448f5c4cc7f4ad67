/-
  Layer proofs, merged: PoV PoV2 PoRk PoO PoA PoA2.
-/
import Derived.Test.YtifcelebfagjbaaGreatDoorMgC
import Derived.Test.YtifcelebfagjbaaGreatDoorMgD
import Derived.Test.YtifcelebfagjbaaGreatDoorShelf
namespace Go.Tw.Po
open Go.RowKit Go.Tw
def isVer (k s : ByteArray) : Bool := Lib.hasPrefix (kb k) (kb s ++ [35]) && !((kb k).drop ((kb s).length + 1)).isEmpty && !(((kb k).drop ((kb s).length + 1)).contains 35)
def verN (l : List Ent) (s : ByteArray) : Nat := (l.filter fun e => isVer e.key s).length
theorem ver_take {l : List Ent} {s : ByteArray} {k : Nat} (h : k < l.length) : verN (l.take (k + 1)) s = verN (l.take k) s + (if isVer l[k].key s = true then 1 else 0) := by
 unfold verN; rw [List.take_succ_eq_append_getElem h, List.filter_append, List.length_append]
 by_cases q : isVer l[k].key s = true
 · simp [q]
 · simp [q]
theorem ver_le {l : List Ent} {s : ByteArray} : verN l s ≤ l.length := List.length_filter_le _ _
end Go.Tw.Po
namespace Go.Tw.Po
open Go.RowKit Go.Tw
theorem cut_drop {k p : List UInt8} (h : Lib.hasPrefix k p = true) : Lib.trimPrefix k p = k.drop p.length := by
 unfold Lib.trimPrefix; rw [if_pos h]
theorem index_ge (l : List UInt8) (c : UInt8) : (c ∈ l → 0 ≤ Lib.indexByte l c) ∧ (c ∉ l → Lib.indexByte l c = -1) := by
 induction l with
 | nil => exact ⟨fun h => by simp at h, fun _ => rfl⟩
 | cons b l ih =>
  refine ⟨fun h => ?_, fun h => ?_⟩
  · rw [Lib.indexByte]
    simp only [beq_iff_eq]
    by_cases e : b = c
    · rw [if_pos e]; omega
    · rw [if_neg e]
      have hm : c ∈ l := by
       rcases List.mem_cons.1 h with h | h
       · exact absurd h.symm e
       · exact h
      have := ih.1 hm; rw [if_neg (by omega)]; omega
  · rw [List.mem_cons, not_or] at h
    rw [Lib.indexByte]; simp only [beq_iff_eq]; rw [if_neg (fun e => h.1 e.symm), if_pos (ih.2 h.2)]
theorem index_has (l : List UInt8) (c : UInt8) : decide (0 ≤ Lib.indexByte l c) = l.contains c := by
 by_cases h : c ∈ l
 · rw [List.contains_iff_mem.2 h]
   simpa using (index_ge l c).1 h
 · have h2 := (index_ge l c).2 h
   rw [h2, show l.contains c = false by rw [Bool.eq_false_iff]; intro q; exact h (List.contains_iff_mem.1 q)]
   rfl
theorem kb_cat (s : ByteArray) : (s ++ ⟨#[35]⟩ : ByteArray).data.toList = kb s ++ [35] := by unfold kb; simp
def cutR (k s : ByteArray) : ByteArray := ⟨(Lib.trimPrefix k.data.toList (s ++ ⟨#[35]⟩ : ByteArray).data.toList).toArray⟩
def cutB (k s : ByteArray) : Bool := Lib.hasPrefix k.data.toList (s ++ ⟨#[35]⟩ : ByteArray).data.toList
theorem ver_no {k s : ByteArray} (h : cutB k s = false) : isVer k s = false := by
 unfold isVer; unfold cutB at h; rw [kb_cat] at h
 show (Lib.hasPrefix k.data.toList (kb s ++ [35]) && _ && _) = false
 rw [h]; rfl
theorem cut_kb {k s : ByteArray} (h : cutB k s = true) : (cutR k s).data.toList = (kb k).drop ((kb s).length + 1) := by
 unfold cutR; unfold cutB at h; rw [cut_drop h, kb_cat]; simp [kb]
theorem ver_yes {k s : ByteArray} (h : cutB k s = true) : isVer k s = (!decide ((cutR k s).size = 0) && !((cutR k s).data.toList.contains 35)) := by
 have h1 := cut_kb h; unfold isVer
 have h2 : Lib.hasPrefix (kb k) (kb s ++ [35]) = true := by
  unfold cutB at h; rw [kb_cat] at h; exact h
 rw [h2, ← h1]
 have h3 : (cutR k s).data.toList.isEmpty = decide ((cutR k s).size = 0) := by
  rw [Bool.eq_iff_iff, List.isEmpty_iff, decide_eq_true_eq]
  constructor
  · intro e
    have : (cutR k s).data.toList.length = 0 := by rw [e]; rfl
    simpa using this
  · intro e
    exact List.eq_nil_of_length_eq_zero (by simpa using e)
 rw [h3, Bool.true_and]
end Go.Tw.Po
namespace Go.Proofs.YtifcelebfagjbaaGreatDoor
open Go.RowKit Go.Tw Go.Tw.Ord Go.Tw.Po Go.Sort
set_option maxRecDepth 100000 in
set_option maxHeartbeats 2000000 in
theorem version_any (l : List Ent) (v : Value) (s : ByteArray) (w : World) (h : SlIs (tEnt 101) (· < w.heap.size) w v l) (hs : s.size ≤ 100000) (hl : l.length ≤ 1000000) :
  Calls Tryz.prog 49 #[.agg #[v], .string s] w fun e w' => e = .returned (.int .i64 (verN l s)) ∧ Below w.heap.size w w' := by
 have HB0 := Lib.hid (bl_alloc (Below.refl w.heap.size w) (.cells #[v] 68)); obtain ⟨ao, cap, bi, off, rfl, h1, h2, ho⟩ := ent_open h; unfold maxLen at h2; have HO := Lib.hid ho; have hz : ¬ (9223372036854775807 < s.size + 1) := by omega
 clear h ho
 go_enter Tryz.func49, Tryz.ntmps49
 go_wp2
 go_loopg [5, 13] l.length (fun g n i wr => ∃ (k : Nat), k + g = l.length ∧ i = .int .i64 k ∧ n = .int .i64 (verN (l.take k) s) ∧ Below w.heap.size w wr)
 case atStart => exact ⟨0, by omega, rfl, rfl, HB0.out⟩
 case round =>
  obtain ⟨k, hk, rfl, rfl, hb1⟩ := hrel; have HB := Lib.hid hb1
  by_cases hlt : k < l.length
  · obtain ⟨rfl, -, hbi, -, hv, hsl, c0, c1, c2⟩ := HO.out wr (.of_below hb1) k hlt
    obtain ⟨hva, hvc, _, _, rfl, -⟩ := hsl; have k0 : (0 : Int) ≤ (k : Int) := by omega
    have k1 : (k : Int) < (l.length : Int) := by omega
    have HT := Lib.hid (ver_take (s := s) hlt); have hle : verN (l.take k) s ≤ k := Nat.le_trans ver_le (List.length_take_le _ _); obtain ⟨n, hn⟩ : ∃ n, verN (l.take k) s = n := ⟨_, rfl⟩; obtain ⟨n', hn'⟩ : ∃ n, verN (l.take (k + 1)) s = n := ⟨_, rfl⟩; rw [hn] at hle ⊢; rw [hn, hn'] at HT; have HN' := Lib.hid hn'; generalize l[k] = y at *; have HBA := Lib.hid (bl_alloc HB.out (.cells #[.string y.key, .int .i64 y.tm, .slice hva y.ps.length hvc] 56)); have HCP := Lib.hid (fun W => Tryz.strings_CutPrefix y.key (s ++ ⟨#[35]⟩) W); have HVN := Lib.hid (ver_no (k := y.key) (s := s)); have HVY := Lib.hid (ver_yes (k := y.key) (s := s)); have HCP := Lib.hid (show ∀ W, Calls Tryz.prog 85 #[.string y.key, .string (s ++ ⟨#[35]⟩)] W fun e w' => e = .returned (.tuple #[.string (cutR y.key s), .bool (cutB y.key s)]) ∧ w' = W from HCP.out); have HCT := Lib.hid (show ∀ W, Calls Tryz.prog 86 #[.string (cutR y.key s), .string ⟨#[35]⟩] W fun e w' => e = .returned (.bool ((cutR y.key s).data.toList.contains 35)) ∧ w' = W from fun W => by rw [← index_has]; exact Tryz.strings_Contains_one _ 35 W); obtain ⟨cb, hcb⟩ : ∃ cb, cutB y.key s = cb := ⟨_, rfl⟩; obtain ⟨cr, hcr⟩ : ∃ cr, cutR y.key s = cr := ⟨_, rfl⟩; rw [hcb] at HVN HVY HCP; rw [hcr] at HVY HCP HCT; obtain ⟨ct, hct⟩ : ∃ ct, cr.data.toList.contains 35 = ct := ⟨_, rfl⟩; rw [hct] at HVY HCT; have hw1 : IntKind.i64.wrap ((n : Int) + 1) = (n : Int) + 1 := wrap_in (by omega) (by omega); clear hn hn' hcb hcr hct hb1
    cases cb with
    | false =>
     have HE := Lib.hid (show n' = n by rw [HT.out, HVN.out rfl]; simp)
     go_wp2_with (first
                  | (go_at_call 85; with_reducible refine (HCP.out _).mono ?_; rintro e w1 ⟨rfl, rfl⟩)
                  | (go_at_call 86; with_reducible refine (HCT.out _).mono ?_; rintro e w1 ⟨rfl, rfl⟩))
     go_roundg (l.length - (k + 1))
     case measure => omega
     case rel => exact ⟨k + 1, by omega, by go_num, by rw [HN'.out, HE.out], HBA.out⟩
    | true =>
     by_cases hz0 : cr.size = 0
     · have HE := Lib.hid (show n' = n by rw [HT.out, HVY.out rfl, decide_eq_true hz0]; simp)
       have he := emp_yes hz0; clear hz0
       go_wp2_with (first
                    | (go_at_call 85; with_reducible refine (HCP.out _).mono ?_; rintro e w1 ⟨rfl, rfl⟩)
                    | (go_at_call 86; with_reducible refine (HCT.out _).mono ?_; rintro e w1 ⟨rfl, rfl⟩))
       go_roundg (l.length - (k + 1))
       case measure => omega
       case rel => exact ⟨k + 1, by omega, by go_num, by rw [HN'.out, HE.out], HBA.out⟩
     · have he := emp_no hz0
       have HZ := Lib.hid (decide_eq_false hz0); clear hz0
       cases ct with
       | true =>
        have HE := Lib.hid (show n' = n by rw [HT.out, HVY.out rfl, HZ.out]; simp)
        go_wp2_with (first
                     | (go_at_call 85; with_reducible refine (HCP.out _).mono ?_; rintro e w1 ⟨rfl, rfl⟩)
                     | (go_at_call 86; with_reducible refine (HCT.out _).mono ?_; rintro e w1 ⟨rfl, rfl⟩))
        go_roundg (l.length - (k + 1))
        case measure => omega
        case rel => exact ⟨k + 1, by omega, by go_num, by rw [HN'.out, HE.out], HBA.out⟩
       | false =>
        have HE := Lib.hid (show n' = n + 1 by rw [HT.out, HVY.out rfl, HZ.out]; simp)
        go_wp2_with (first
                     | (go_at_call 85; with_reducible refine (HCP.out _).mono ?_; rintro e w1 ⟨rfl, rfl⟩)
                     | (go_at_call 86; with_reducible refine (HCT.out _).mono ?_; rintro e w1 ⟨rfl, rfl⟩))
        go_roundg (l.length - (k + 1))
        case measure => omega
        case rel => exact ⟨k + 1, by omega, by go_num, by rw [HN'.out, HE.out]; go_num, HBA.out⟩
  · have hkd : decide ((k : Int) < (l.length : Int)) = false := by simp; omega
    have HE := Lib.hid (show verN (l.take k) s = verN l s by rw [List.take_of_length_le (by omega)]); go_wp2; go_ret; exact ⟨ret_int (by rw [HE.out]), HB.out⟩
end Go.Proofs.YtifcelebfagjbaaGreatDoor
namespace Go.Tw.Po
open Go.RowKit Go.Tw
theorem pre_iff (k p : List UInt8) (c : UInt8) : Lib.hasPrefix k (p ++ [c]) = (decide (k.take p.length = p) && decide (k[p.length]? = some c)) := by
 induction p generalizing k with
 | nil =>
  cases k with
  | nil => rfl
  | cons a k =>
   show ((c == a) && true) = (true && decide (some a = some c))
   by_cases h : c = a
   · subst h; rw [decide_eq_true rfl]; simp
   · rw [beq_eq_false_iff_ne.2 h, decide_eq_false (fun e => h (Option.some.inj e).symm)]; rfl
 | cons b p ih =>
  cases k with
  | nil => simp [Lib.hasPrefix]
  | cons a k =>
   have := ih k; simp only [Lib.hasPrefix, List.cons_append, List.isPrefixOf_cons_cons, List.length_cons, List.take_succ_cons, List.cons.injEq, List.getElem?_cons_succ] at this ⊢; rw [this]
   by_cases h : b = a
   · subst h; simp
   · rw [beq_eq_false_iff_ne.2 h, decide_eq_false (fun e : a = b ∧ _ => h e.1.symm)]; rfl
end Go.Tw.Po
namespace Go.Tw.Po
open Go.RowKit Go.Tw
def validI (a b : Int) : Bool := decide (0 ≤ a) && decide (a < b) && decide (b ≤ 68719476736)
def hasI (a b t : Int) : Bool := validI a b && decide (a ≤ t) && decide (t < b)
end Go.Tw.Po
namespace Go.Proofs.YtifcelebfagjbaaGreatDoor
open Go.RowKit Go.Tw Go.Tw.Ord Go.Tw.Po Go.Sort
theorem valid_any (a b : Int) (w : World) : Calls Tryz.prog 165 #[.agg #[.int .i64 a, .int .i64 b]] w fun e w' => e = .returned (.bool (validI a b)) ∧ Below w.heap.size w w' := by
 have HB := Lib.hid (bl_alloc (Below.refl w.heap.size w) (.cells #[.int .i64 a, .int .i64 b] 136))
 by_cases h1 : 0 ≤ a
 case neg =>
  have HE := Lib.hid (show validI a b = false by unfold validI; rw [decide_eq_false h1]; rfl); have k1 : decide (0 ≤ a) = false := decide_eq_false h1; clear h1
  go_enter Tryz.func165, Tryz.ntmps165
  go_wp2; go_ret; exact ⟨ret_bool HE.out, HB.out⟩
 by_cases h2 : a < b
 case neg =>
  have HE := Lib.hid (show validI a b = false by unfold validI; rw [decide_eq_false h2]; simp); have k2 : decide (a < b) = false := decide_eq_false h2; clear h2
  go_enter Tryz.func165, Tryz.ntmps165
  go_wp2; go_ret; exact ⟨ret_bool HE.out, HB.out⟩
 have HE := Lib.hid (show validI a b = decide (b ≤ 68719476736) by unfold validI; rw [decide_eq_true h1, decide_eq_true h2]; rfl); obtain ⟨q, hq⟩ : ∃ q, decide (b ≤ 68719476736) = q := ⟨_, rfl⟩; rw [hq] at HE
 cases q
 all_goals
  go_enter Tryz.func165, Tryz.ntmps165
  go_wp2; go_ret; exact ⟨ret_bool HE.out, HB.out⟩
set_option maxRecDepth 100000 in
theorem has1_any (a b t : Int) (g : Nat) (w : World) (hg : w.cell? ⟨g, 0, none⟩ = some (.int .i64 t)) :
  Calls Tryz.prog 164 #[.agg #[.int .i64 a, .int .i64 b], .pointer (some ⟨g, 0, none⟩)] w fun e w' => e = .returned (.bool (hasI a b t)) ∧ Below w.heap.size w w' := by
 have hgl := lt_of_cell hg; simp only at hgl; have b1 := bl_alloc (Below.refl w.heap.size w) (.cells #[.int .i64 a, .int .i64 b] 136); have HB := Lib.hid b1; have HV := Lib.hid (valid_any a b (w.alloc (.cells #[.int .i64 a, .int .i64 b] 136))); obtain ⟨v, hv⟩ : ∃ v, validI a b = v := ⟨_, rfl⟩; have HH := Lib.hid (show hasI a b t = (v && decide (a ≤ t) && decide (t < b)) by unfold hasI; rw [hv]); rw [hv] at HV; have HG := Lib.hid hg; clear b1 hv hg
 cases v with
 | false =>
  have HE := Lib.hid (show hasI a b t = false by rw [HH.out]; rfl)
  go_enter Tryz.func164, Tryz.ntmps164
  go_wp2_with (fail)
  with_reducible refine HV.out.mono ?_
  rintro e w2 ⟨rfl, hb⟩; have n1 := (hb.block w.heap.size (by simp)).trans (heap_alloc_new _ _); obtain ⟨c0, c1, -⟩ := blk2 n1; have HB2 := Lib.hid (bl_trans HB.out hb); have d0 : w2.cell? ⟨g, 0, none⟩ = some (.int .i64 t) := (Below.cell HB2.out (p := ⟨g, 0, none⟩) hgl).trans HG.out; clear n1 hb HV HG; go_wp2; go_ret; exact ⟨ret_bool HE.out, HB2.out⟩
 | true =>
  by_cases h2 : a ≤ t
  case neg =>
   have HE := Lib.hid (show hasI a b t = false by rw [HH.out, decide_eq_false h2]; rfl); have k2 : decide (a ≤ t) = false := decide_eq_false h2; clear h2
   go_enter Tryz.func164, Tryz.ntmps164
   go_wp2_with (fail)
   with_reducible refine HV.out.mono ?_
   rintro e w2 ⟨rfl, hb⟩; have n1 := (hb.block w.heap.size (by simp)).trans (heap_alloc_new _ _); obtain ⟨c0, c1, -⟩ := blk2 n1; have HB2 := Lib.hid (bl_trans HB.out hb); have d0 : w2.cell? ⟨g, 0, none⟩ = some (.int .i64 t) := (Below.cell HB2.out (p := ⟨g, 0, none⟩) hgl).trans HG.out; clear n1 hb HV HG; go_wp2; go_ret; exact ⟨ret_bool HE.out, HB2.out⟩
  by_cases h3 : t < b
  case neg =>
   have HE := Lib.hid (show hasI a b t = false by rw [HH.out, decide_eq_false h3]; simp); have k3 : decide (t < b) = false := decide_eq_false h3; clear h3
   go_enter Tryz.func164, Tryz.ntmps164
   go_wp2_with (fail)
   with_reducible refine HV.out.mono ?_
   rintro e w2 ⟨rfl, hb⟩; have n1 := (hb.block w.heap.size (by simp)).trans (heap_alloc_new _ _); obtain ⟨c0, c1, -⟩ := blk2 n1; have HB2 := Lib.hid (bl_trans HB.out hb); have d0 : w2.cell? ⟨g, 0, none⟩ = some (.int .i64 t) := (Below.cell HB2.out (p := ⟨g, 0, none⟩) hgl).trans HG.out; clear n1 hb HV HG; go_wp2; go_ret; exact ⟨ret_bool HE.out, HB2.out⟩
  have HE := Lib.hid (show hasI a b t = true by rw [HH.out, decide_eq_true h2, decide_eq_true h3]; rfl)
  go_enter Tryz.func164, Tryz.ntmps164
  go_wp2_with (fail)
  with_reducible refine HV.out.mono ?_
  rintro e w2 ⟨rfl, hb⟩; have n1 := (hb.block w.heap.size (by simp)).trans (heap_alloc_new _ _); obtain ⟨c0, c1, -⟩ := blk2 n1; have HB2 := Lib.hid (bl_trans HB.out hb); have d0 : w2.cell? ⟨g, 0, none⟩ = some (.int .i64 t) := (Below.cell HB2.out (p := ⟨g, 0, none⟩) hgl).trans HG.out; clear n1 hb HV HG; go_wp2; go_ret; exact ⟨ret_bool HE.out, HB2.out⟩
theorem index1_any (a b t : Int) (g r : Nat) (w : World) (hg : w.cell? ⟨g, 0, none⟩ = some (.int .i64 t)) (hr : w.heap[r]? = some (.cells #[.int .i64 a, .int .i64 b] 136 (0, 0))) :
  Calls Tryz.prog 173 #[.slice (some ⟨r, 0, none⟩) 1 1, .func (.func 164) #[] #[.pointer (some ⟨g, 0, none⟩)]] w
   fun e w' => e = .returned (.int .i64 (if hasI a b t = true then 0 else -1)) ∧ Below w.heap.size w w' := by
 have HI := Lib.hid (has1_any a b t g w hg); obtain ⟨c0, c1, -⟩ := blk2 hr; obtain ⟨q, hq⟩ : ∃ q, hasI a b t = q := ⟨_, rfl⟩; rw [hq] at HI ⊢; clear hg hr hq
 go_enter Tryz.func173, Tryz.ntmps173
 go_wp2
 go_loopg [8] 1 (fun gx i wr => (i = .int .i64 0 ∧ gx = 1 ∧ wr = w) ∨ (i = .int .i64 1 ∧ q = false ∧ Below w.heap.size w wr))
 case atStart => exact .inl ⟨rfl, rfl, rfl⟩
 case round =>
  rcases hrel with ⟨rfl, rfl, hw⟩ | ⟨rfl, rfl, hb⟩
  · rw [hw]
    clear hw
    cases q
    · go_wp2_with (go_at_call 164; with_reducible refine HI.out.mono ?_; rintro e w2 ⟨rfl, hb⟩)
      go_roundg 0
      case measure => omega
      case rel => exact .inr ⟨by go_num, by simp, by assumption⟩
    · go_wp2_with (go_at_call 164; with_reducible refine HI.out.mono ?_; rintro e w2 ⟨rfl, hb⟩)
      go_ret; exact ⟨rfl, hb⟩
  · go_wp2
    go_ret; exact ⟨rfl, hb⟩
end Go.Proofs.YtifcelebfagjbaaGreatDoor
namespace Go.Tw.Po
open Go.RowKit Go.Tw Go.Sort Go.Tw.Ord
structure Ow where
 tag : ByteArray
 plt : ByteArray
 fr : Int
 to : Int
def tOw : Ty Ow := (tStr.pair (tStr.pair (tInt.pair tInt))).via fun r => (r.tag, r.plt, r.fr, r.to)
structure OwOk (r : Ow) : Prop where
 tag : r.tag.size ≤ maxLen
 plt : r.plt.size ≤ maxLen
 fr : i64ok r.fr
 to : i64ok r.to
theorem tOw_is {S : Nat → Prop} {w : World} {cs : List Value} {r : Ow} (h : tOw.is S w cs r) : cs = [.string r.tag, .string r.plt, .int .i64 r.fr, .int .i64 r.to] ∧ OwOk r := by
 obtain ⟨_, _, rfl, ⟨rfl, h1⟩, _, _, rfl, ⟨rfl, h2⟩, _, _, rfl, ⟨rfl, h3⟩, ⟨rfl, h4⟩⟩ := h; exact ⟨rfl, h1, h2, h3, h4⟩
structure Acc where
 nm : ByteArray
 ag : ByteArray
 pre : Bool
 ow : List Ow
 r1 : Int
 r2 : Int
 r3 : Int
 r4 : Int
 ex : Bool
def tAcc (e : TypeId) : Ty Acc := (tStr.pair (tStr.pair (tBool.pair ((tOw.list e).pair (tInt.pair (tInt.pair (tInt.pair (tInt.pair tBool)))))))).via fun r => (r.nm, r.ag, r.pre, r.ow, r.r1, r.r2, r.r3, r.r4, r.ex)
theorem tAcc_is {e : TypeId} {S : Nat → Prop} {w : World} {cs : List Value} {r : Acc} (h : (tAcc e).is S w cs r) : ∃ v, cs = [.string r.nm, .string r.ag, .bool r.pre, v, .int .i64 r.r1, .int .i64 r.r2, .int .i64 r.r3, .int .i64 r.r4, .bool r.ex] ∧ r.nm.size ≤ maxLen ∧ SlIs tOw S w v r.ow := by
 obtain ⟨_, _, rfl, ⟨rfl, h1⟩, _, _, rfl, ⟨rfl, h2⟩, _, _, rfl, rfl, _, _, rfl, ⟨v, rfl, h4⟩, _, _, rfl, ⟨rfl, h5⟩, _, _, rfl, ⟨rfl, h6⟩, _, _, rfl, ⟨rfl, h7⟩, _, _, rfl, ⟨rfl, h8⟩, rfl⟩ := h; exact ⟨v, rfl, h1, h4⟩
theorem ow_open {S : Nat → Prop} {w : World} {v : Value} {l : List Ow} (h : SlIs tOw S w v l) :
  ∃ ao cap b off, v = .slice ao l.length cap ∧ l.length ≤ cap ∧ cap ≤ maxLen ∧ ∀ w', SameOn S w w' → ∀ k (_ : k < l.length), ao = some ⟨b, off, none⟩ ∧ S b ∧ b < w.heap.size ∧ OwOk l[k] ∧
   w'.cell? ⟨b, off + k * 4, none⟩ = some (.string l[k].tag) ∧ w'.cell? ⟨b, off + k * 4 + 1, none⟩ = some (.string l[k].plt) ∧ w'.cell? ⟨b, off + k * 4 + 2, none⟩ = some (.int .i64 l[k].fr) ∧ w'.cell? ⟨b, off + k * 4 + 3, none⟩ = some (.int .i64 l[k].to) := by
 obtain ⟨ao, cap, b, off, hv, h1, h2, h3⟩ := h.openS; refine ⟨ao, cap, b, off, hv, h1, h2, fun w' hw k hk => ?_⟩; obtain ⟨g1, g2, g2', cs, g3, g4⟩ := h3 w' hw k hk; obtain ⟨rfl, g5⟩ := tOw_is g4; have := cells4 (f := fun j => w'.cell? ⟨b, off + k * 4 + j, none⟩) g3; exact ⟨g1, g2, g2', g5, this⟩
def owB (vh : ByteArray) (t : Int) (o : Ow) : Bool := !decide (vh.size = 0) && (decide (o.tag = vh) || decide (o.plt = vh)) && hasI o.fr o.to t
def ownI (l : List Ow) (vh : ByteArray) (t : Int) : Int := match l.findIdx? (owB vh t) with
 | some i => (i : Int)
 | none => -1
def ownerO (l : List Acc) (vh : ByteArray) (t : Int) : Option ByteArray := (l.find? fun a => a.ow.any (owB vh t)).map Acc.nm
theorem ownI_some {l : List Ow} {vh : ByteArray} {t : Int} {k : Nat} (hk : k < l.length) (h : owB vh t l[k] = true) (hb : ∀ j (hj : j < l.length), j < k → owB vh t l[j] = false) : ownI l vh t = k := by
 have : l.findIdx? (owB vh t) = some k := by
  rw [List.findIdx?_eq_some_iff_getElem]; exact ⟨hk, h, fun j hj => by rw [hb j (by omega) hj]; simp⟩
 unfold ownI; rw [this]
theorem ownI_none {l : List Ow} {vh : ByteArray} {t : Int} (h : ∀ j (hj : j < l.length), owB vh t l[j] = false) : ownI l vh t = -1 := by
 have : l.findIdx? (owB vh t) = none := by
  rw [List.findIdx?_eq_none_iff]; intro x hx; obtain ⟨j, hj, rfl⟩ := List.getElem_of_mem hx; exact h j hj
 unfold ownI; rw [this]
theorem ownI_any (l : List Ow) (vh : ByteArray) (t : Int) : (l.any (owB vh t) = true ∧ 0 ≤ ownI l vh t) ∨ (l.any (owB vh t) = false ∧ ownI l vh t = -1) := by
 cases e : l.findIdx? (owB vh t) with
 | some i =>
  obtain ⟨hi, h1, -⟩ := List.findIdx?_eq_some_iff_getElem.1 e; refine .inl ⟨List.any_eq_true.2 ⟨_, List.getElem_mem hi, h1⟩, ?_⟩; unfold ownI; rw [e]; exact Int.natCast_nonneg _
 | none =>
  rw [List.findIdx?_eq_none_iff] at e; refine .inr ⟨List.any_eq_false.2 fun x hx => by rw [e x hx]; simp, ?_⟩; unfold ownI; rw [List.findIdx?_eq_none_iff.2 e]
end Go.Tw.Po
namespace Go.Proofs.YtifcelebfagjbaaGreatDoor
open Go.RowKit Go.Tw Go.Tw.Ord Go.Tw.Po Go.Sort
theorem contI_any (a b t : Int) (g r : Nat) (w : World) (hg : w.cell? ⟨g, 0, none⟩ = some (.int .i64 t)) (hr : w.heap[r]? = some (.cells #[.int .i64 a, .int .i64 b] 136 (0, 0))) :
  Calls Tryz.prog 163 #[.slice (some ⟨r, 0, none⟩) 1 1, .func (.func 164) #[] #[.pointer (some ⟨g, 0, none⟩)]] w
   fun e w' => e = .returned (.bool (hasI a b t)) ∧ Below w.heap.size w w' := by
 have HI := Lib.hid (index1_any a b t g r w hg hr); clear hg hr; obtain ⟨q, hq⟩ : ∃ q, hasI a b t = q := ⟨_, rfl⟩; rw [hq] at HI ⊢; clear hq
 go_enter Tryz.func163, Tryz.ntmps163
 go_wp2_with (fail)
 with_reducible refine HI.out.mono ?_
 rintro e w2 ⟨rfl, hb⟩; have HB := Lib.hid hb; clear hb HI
 cases q
 all_goals
  simp only [Bool.false_eq_true, if_false, if_true]; go_wp2; go_ret; exact ⟨rfl, HB.out⟩
theorem has_any (a b t : Int) (r : Nat) (w : World) (hr : w.heap[r]? = some (.cells #[.int .i64 a, .int .i64 b] 136 (0, 0))) :
  Calls Tryz.prog 152 #[.slice (some ⟨r, 0, none⟩) 1 1, .int .i64 t] w fun e w' => e = .returned (.bool (hasI a b t)) ∧ Below w.heap.size w w' := by
 have b1 := bl_alloc (Below.refl w.heap.size w) (.cells #[.int .i64 t] 3); have HI := Lib.hid (contI_any a b t w.heap.size r (w.alloc (.cells #[.int .i64 t] 3)) (by simp) ((b1.block _ (lt_of_heap hr)).trans hr)); have HB1 := Lib.hid b1; clear hr b1
 go_enter Tryz.func152, Tryz.ntmps152
 go_wp2_with (fail)
 with_reducible refine HI.out.mono ?_
 rintro e w2 ⟨rfl, hb⟩; have HB := Lib.hid (bl_trans HB1.out hb); clear hb HI HB1; go_wp2; go_ret; exact ⟨rfl, HB.out⟩
end Go.Proofs.YtifcelebfagjbaaGreatDoor
namespace Go.Proofs.YtifcelebfagjbaaGreatDoor
open Go.RowKit Go.Tw Go.Tw.Ord Go.Tw.Po Go.Sort
set_option maxRecDepth 100000 in
set_option maxHeartbeats 4000000 in
theorem owned_any (l : List Ow) (v : Value) (vh : ByteArray) (t : Int) (w : World) (h : SlIs tOw (· < w.heap.size) w v l) :
  Calls Tryz.prog 135 #[v, .string vh, .int .i64 t] w fun e w' => e = .returned (.int .i64 (ownI l vh t)) ∧ Below w.heap.size w w' := by
 obtain ⟨ao, cap, bi, off, rfl, hl, hm, ho⟩ := ow_open h; unfold maxLen at hm; have HO := Lib.hid ho; clear h ho
 go_enter Tryz.func135, Tryz.ntmps135
 go_wp2
 go_loopg [11] l.length (fun g i wr => ∃ k : Nat, k + g = l.length ∧ i = .int .i64 k ∧ Hid (∀ j (hj : j < l.length), j < k → owB vh t l[j] = false) ∧ Below w.heap.size w wr)
 case atStart => exact ⟨0, by omega, rfl, Lib.hid (fun j _ h => by omega), Below.refl _ _⟩
 case round =>
  obtain ⟨k, hk, rfl, HT, hb1⟩ := hrel; have HB := Lib.hid hb1
  by_cases hlt : k < l.length
  · obtain ⟨rfl, -, hbi, -, c0, c1, c2, c3⟩ := HO.out wr (.of_below hb1) k hlt
    have k0 : (0 : Int) ≤ (k : Int) := by omega
    have k1 : (k : Int) < (l.length : Int) := by omega
    have HG1 := Lib.hid (show ∀ j (hj : j < l.length), j = k → l[j] = l[k] by rintro j hj rfl; rfl); generalize l[k] = y at *; obtain ⟨yt, yp, yf, yo⟩ := y; simp only at c0 c1 c2 c3; have hb2 := bl_alloc hb1 (.cells #[.string yt, .string yp, .int .i64 yf, .int .i64 yo] 138); have HBA := Lib.hid hb2; have HBC := Lib.hid (bl_alloc hb2 (.cells #[.int .i64 yf, .int .i64 yo] 136)); have HHAS := Lib.hid (has_any yf yo t (wr.heap.size + 1) ((wr.alloc (.cells #[.string yt, .string yp, .int .i64 yf, .int .i64 yo] 138)).alloc (.cells #[.int .i64 yf, .int .i64 yo] 136)) (heap_alloc2_new wr _ _)); obtain ⟨q, hq⟩ : ∃ q, hasI yf yo t = q := ⟨_, rfl⟩; have HOB := Lib.hid (show owB vh t ⟨yt, yp, yf, yo⟩ = (!decide (vh.size = 0) && (decide (yt = vh) || decide (yp = vh)) && q) by rw [← hq]; rfl); rw [hq] at HHAS; clear hb1 hb2 hq
    by_cases hz : vh.size = 0
    · have HE := Lib.hid (show owB vh t ⟨yt, yp, yf, yo⟩ = false by rw [HOB.out, decide_eq_true hz]; rfl)
      have he := emp_yes hz; clear hz
      go_wp2_with (go_at_call 152; with_reducible refine HHAS.out.mono ?_; rintro e w2 ⟨rfl, hb2⟩; have HB2 := Lib.hid (bl_trans HBC.out hb2); clear hb2)
      go_roundg (l.length - (k + 1))
      case measure => omega
      case rel => exact ⟨k + 1, by omega, by go_num, Lib.hid (fun j hj h => by
       by_cases e : j = k
       · rw [HG1.out j hj e]; exact HE.out
       · exact HT.out j hj (by omega)), HBA.out⟩
    have he := emp_no hz; have HZ := Lib.hid (decide_eq_false hz); clear hz; obtain ⟨a1, ha1⟩ : ∃ a, (yt.toList == vh.toList) = a := ⟨_, rfl⟩; have HA1 := Lib.hid (show decide (yt = vh) = a1 by rw [← ha1, eq_str]); obtain ⟨a2, ha2⟩ : ∃ a, (yp.toList == vh.toList) = a := ⟨_, rfl⟩; have HA2 := Lib.hid (show decide (yp = vh) = a2 by rw [← ha2, eq_str])
    cases a1 with
    | false =>
     cases a2 with
     | false =>
      have HE := Lib.hid (show owB vh t ⟨yt, yp, yf, yo⟩ = false by rw [HOB.out, HA1.out, HA2.out]; simp)
      go_wp2_with (go_at_call 152; with_reducible refine HHAS.out.mono ?_; rintro e w2 ⟨rfl, hb2⟩; have HB2 := Lib.hid (bl_trans HBC.out hb2); clear hb2)
      go_roundg (l.length - (k + 1))
      case measure => omega
      case rel => exact ⟨k + 1, by omega, by go_num, Lib.hid (fun j hj h => by
       by_cases e : j = k
       · rw [HG1.out j hj e]; exact HE.out
       · exact HT.out j hj (by omega)), HBA.out⟩
     | true =>
      cases q with
      | false =>
       have HE := Lib.hid (show owB vh t ⟨yt, yp, yf, yo⟩ = false by rw [HOB.out]; simp)
       go_wp2_with (go_at_call 152; with_reducible refine HHAS.out.mono ?_; rintro e w2 ⟨rfl, hb2⟩; have HB2 := Lib.hid (bl_trans HBC.out hb2); clear hb2)
       go_roundg (l.length - (k + 1))
       case measure => omega
       case rel => exact ⟨k + 1, by omega, by go_num, Lib.hid (fun j hj h => by
        by_cases e : j = k
        · rw [HG1.out j hj e]; exact HE.out
        · exact HT.out j hj (by omega)), HB2.out⟩
      | true =>
       have HE := Lib.hid (show owB vh t ⟨yt, yp, yf, yo⟩ = true by rw [HOB.out, HA1.out, HA2.out, HZ.out]; rfl)
       go_wp2_with (go_at_call 152; with_reducible refine HHAS.out.mono ?_; rintro e w2 ⟨rfl, hb2⟩; have HB2 := Lib.hid (bl_trans HBC.out hb2); clear hb2)
       go_ret; exact ⟨ret_int (ownI_some hlt (by rw [HG1.out k hlt rfl]; exact HE.out) HT.out), HB2.out⟩
    | true =>
     cases q with
     | false =>
      have HE := Lib.hid (show owB vh t ⟨yt, yp, yf, yo⟩ = false by rw [HOB.out]; simp)
      go_wp2_with (go_at_call 152; with_reducible refine HHAS.out.mono ?_; rintro e w2 ⟨rfl, hb2⟩; have HB2 := Lib.hid (bl_trans HBC.out hb2); clear hb2)
      go_roundg (l.length - (k + 1))
      case measure => omega
      case rel => exact ⟨k + 1, by omega, by go_num, Lib.hid (fun j hj h => by
       by_cases e : j = k
       · rw [HG1.out j hj e]; exact HE.out
       · exact HT.out j hj (by omega)), HB2.out⟩
     | true =>
      have HE := Lib.hid (show owB vh t ⟨yt, yp, yf, yo⟩ = true by rw [HOB.out, HA1.out, HZ.out]; rfl)
      go_wp2_with (go_at_call 152; with_reducible refine HHAS.out.mono ?_; rintro e w2 ⟨rfl, hb2⟩; have HB2 := Lib.hid (bl_trans HBC.out hb2); clear hb2)
      go_ret; exact ⟨ret_int (ownI_some hlt (by rw [HG1.out k hlt rfl]; exact HE.out) HT.out), HB2.out⟩
  · go_wp2
    go_ret; exact ⟨ret_int (ownI_none fun j hj => HT.out j hj (by omega)), HB.out⟩
end Go.Proofs.YtifcelebfagjbaaGreatDoor
