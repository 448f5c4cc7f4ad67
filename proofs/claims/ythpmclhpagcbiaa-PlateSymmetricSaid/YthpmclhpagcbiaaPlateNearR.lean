/-
  Layer 10 (plate): the walk of the reference's Near.
-/
import Derived.Test.YthpmclhpagcbiaaPlateNear
import Derived.Test.YthpmclhpagcbiaaPlateBefore
namespace Go.Proofs.Ythpmclhpagcbiaa
open Go.RowKit Go.Tw Go.Tw.Plate

/-- the place among those looked at: behind the last one that comes before p -/
structure Place (s p : ByteArray) (out : List ByteArray) (j t : Nat) (same : Bool) : Prop where
  le : t ≤ j
  lt : t = 0 ∨ ∃ q : t - 1 < out.length, nearLt s out[t - 1] p = true
  ge : ∀ i (hi : i < out.length), t ≤ i → i < j → nearLt s out[i] p = false
  same : same = decide (p ∈ out.take j)
theorem Place.start (s p : ByteArray) (out : List ByteArray) : Place s p out 0 0 false := ⟨Nat.le_refl _, .inl rfl, fun _ _ _ h => absurd h (Nat.not_lt_zero _), by simp⟩
theorem same_succ {p : ByteArray} {out : List ByteArray} {j : Nat} {same : Bool} (h : same = decide (p ∈ out.take j)) (hj : j < out.length) : (if out[j] = p then true else same) = decide (p ∈ out.take (j + 1)) := by
  rw [List.take_succ_eq_append_getElem hj, h]
  by_cases e : out[j] = p
  · rw [if_pos e]; simp [e]
  · rw [if_neg e]
    congr 1
    refine propext ⟨fun q => List.mem_append.2 (.inl q), fun q => ?_⟩
    rcases List.mem_append.1 q with q | q
    · exact q
    · exact absurd (List.mem_singleton.1 q).symm e
theorem Place.yes {s p : ByteArray} {out : List ByteArray} {j t : Nat} {same same' : Bool} (h : Place s p out j t same) (hj : j < out.length) (hl : nearLt s out[j] p = true) (hs : same' = if out[j] = p then true else same) : Place s p out (j + 1) (j + 1) same' :=
  ⟨Nat.le_refl _, .inr ⟨hj, hl⟩, fun i _ h1 h2 => by omega, hs.trans (same_succ h.same hj)⟩
theorem Place.no {s p : ByteArray} {out : List ByteArray} {j t : Nat} {same same' : Bool} (h : Place s p out j t same) (hj : j < out.length) (hl : nearLt s out[j] p = false) (hs : same' = if out[j] = p then true else same) : Place s p out (j + 1) t same' :=
  ⟨by have := h.le; omega, h.lt, fun i hi h1 h2 => by
    rcases Nat.lt_or_ge i j with q | q
    · exact h.ge i hi h1 q
    · obtain rfl : i = j := by omega
      exact hl, hs.trans (same_succ h.same hj)⟩
theorem near_less {s x y : ByteArray} (h : distS x s < distS y s) : nearLt s x y = true := by unfold nearLt; simp [h]
theorem near_more {s x y : ByteArray} (h : distS y s < distS x s) : nearLt s x y = false := by unfold nearLt; simp; omega
theorem near_eq {s x y : ByteArray} (h : distS x s = distS y s) : nearLt s x y = ltL (codes x) (codes y) := by unfold nearLt; simp [h]

theorem ownSl_mono {α : Type} {T : Ty α} {e : TypeId} {B B' : Nat} {w : World} {v : Value} {l : List α} (h : OwnSl T e B w v l) (hB : B' ≤ B) : OwnSl T e B' w v l := by
  obtain ⟨css, h1, h2⟩ := h
  refine ⟨css, ⟨h1.1, ?_⟩, h2⟩
  rcases h1.2 with q | ⟨g, cap, cur, q1, q2, q⟩
  · exact .inl q
  · exact .inr ⟨g, cap, cur, q1, Nat.le_trans hB q2, q⟩
set_option maxRecDepth 100000 in
set_option maxHeartbeats 4000000 in
theorem NearR_any (l : List ByteArray) (s : ByteArray) (most : Int) (v : Value) (w : World) (h : SlIs tStr (· < w.heap.size) w v l) (hlen : l.length ≤ 1000) (hl : ∀ x ∈ l, x.size ≤ 1000000) (hs : s.size ≤ 1000000) :
    Calls Try.prog 23 #[v, .string s, .int .i64 most] w fun e w' => ∃ v' r, e = .returned v' ∧ SlIs tStr (· < w'.heap.size) w' v' r ∧ NearOf s most l r ∧ Below w.heap.size w w' := by
  obtain ⟨ao, cap, b, off, rfl, h1, h2, ho⟩ := strs_open h
  unfold maxLen at h2
  clear h
  go_enter Try.func23, Try.ntmps23
  go_wp2
  go_loopg [8, 7] l.length (fun g i o wr => ∃ (k : Nat) (out : List ByteArray), k + g = l.length ∧ i = .int .i64 k ∧ NearOf s most (l.take k) out ∧ out.length ≤ k ∧ OwnSl tStr 9 w.heap.size wr o out ∧ Below w.heap.size w wr)
  case atStart =>
    exact ⟨0, [], by omega, rfl, ⟨NearSet.start s most, List.Pairwise.nil⟩, by simp, OwnSl.nil _ _ _ _, Below.refl _ _⟩
  case round =>
    obtain ⟨wo, rfl⟩ : ∃ wo : World, wo = wr := ⟨_, rfl⟩
    obtain ⟨k, out, hk, rfl, hns, hok, hown, hb1⟩ := hrel
    have HN := Lib.hid hns; clear hns
    have HB := Lib.hid hb1
    by_cases hlt : k < l.length
    case neg =>
      obtain rfl : k = l.length := by omega
      rw [List.take_length] at HN
      have HSL := Lib.hid hown.sl
      clear hown hb1 ho hlt hk
      have hd : decide ((l.length : Int) < (l.length : Int)) = false := by simp
      go_wp2
      go_ret
      exact ⟨_, out, rfl, HSL.out, HN.out, HB.out⟩
    obtain ⟨rfl, -, hx1, c0, -⟩ := ho wo (.of_below hb1) k hlt
    have HO := Lib.hid ho; clear ho
    have hsz := Lib.hid (hl _ (List.getElem_mem hlt))
    have HT := Lib.hid (List.take_succ_eq_append_getElem hlt)
    have k0 : (0 : Int) ≤ (k : Int) := by omega
    have k1 : (k : Int) < (l.length : Int) := by omega
    obtain ⟨oa, oc, og, oo, rfl, ho1, ho2, hoc⟩ := strs_open (hown.fresh (fun h => h))
    unfold maxLen at ho2
    have HOWN := Lib.hid hown; clear hown
    by_cases hd : most < distS l[k] s
    · have HD := Lib.hid hd
      go_wp2_with (go_at_call 17; refine (DistanceR_any _ _ _ hsz.out hs).mono ?_; rintro e w2 ⟨rfl, hb2⟩)
      go_roundg (l.length - (k + 1))
      case measure => omega
      case rel => exact ⟨k + 1, out, by omega, by go_num, ⟨by rw [HT.out]; exact HN.out.1.far (fun q => absurd HD.out (by omega)), HN.out.2⟩, by omega, HOWN.out.below hb2, bl_trans HB.out hb2⟩
    · have HD := Lib.hid hd
      go_wp2_with (go_at_call 17; refine (DistanceR_any _ _ _ hsz.out hs).mono ?_; rintro e w2 ⟨rfl, hb2⟩)
      have hw2 := hb2.size
      have HB2 := Lib.hid hb2; clear hb2
      go_loopg [12, 10, 11] out.length (fun g' i' t' s' wi => ∃ (j t : Nat) (same : Bool), j + g' = out.length ∧ i' = .int .i64 j ∧ t' = .int .i64 t ∧ s' = .bool same ∧ Place s l[k] out j t same ∧ Below wo.heap.size wo wi)
      case atStart => exact ⟨0, 0, false, by omega, rfl, rfl, rfl, Place.start _ _ _, HB2.out⟩
      case round =>
        obtain ⟨j, t, same, hj, rfl, rfl, rfl, hp, hb3⟩ := hrel
        have HP := Lib.hid hp; clear hp
        have HB3 := Lib.hid hb3
        have c0' := (hb3.cell (p := ⟨b, off + k, none⟩) (by have := HB.out.size; show b < _; omega)).trans c0
        by_cases hjl : j < out.length
        case neg =>
          obtain rfl : j = out.length := by omega
          have hle := HP.out.le
          have hjd : decide ((out.length : Int) < (out.length : Int)) = false := by simp
          have hsame := HP.out.same
          rw [List.take_length] at hsame
          have HSM := Lib.hid hsame; clear hsame hjl hj hb3 c0 hoc
          cases same
          case true =>
            go_wp2
            go_roundg (l.length - (k + 1))
            case measure => omega
            case rel => exact ⟨k + 1, out, by omega, by go_num, ⟨by rw [HT.out]; exact HN.out.1.had (by have := HSM.out; simpa using this), HN.out.2⟩, by omega, HOWN.out.below HB3.out, bl_trans HB.out HB3.out⟩
          case false =>
            have HIN := Lib.hid (show l[k] ∉ out by have := HSM.out; simpa using this)
            have t0 : (0 : Int) ≤ (t : Int) := by omega
            have t1 : (t : Int) ≤ (out.length : Int) := by omega
            have HSL := Lib.hid (SlIs.keep (S' := fun q => q < wo.heap.size) (HOWN.out.fresh (fun h => h)) (fun q hq => hq.2) (fun q hq => HB3.out.block q hq.2))
            have hs3 := HB3.out.size
            go_wp2_with (first
              | (at_builtin
                 refine wpList_append_sl (.tmp 73) (.tmp 76) rfl 32 rfl slStr rfl (OwnSl.nil _ _ wo.heap.size _) rfl (HSL.out.take hle) (fun q (hq : q < wo.heap.size) => ⟨by omega, fun e => by cases e⟩) (by simp; omega) (by unfold maxLen; simp; omega) hs3 ?_
                 intro v1 w1 hown1 hgr1 hor1
                 have hbb1 : Below wr.heap.size wr w1 := Below.of_grown hgr1 (Nat.le_refl _) (fun q hq => by cases hq)
                 have c1' := (hbb1.cell (p := ⟨b, off + k, none⟩) (by have := HB.out.size; show b < _; omega)).trans c0'
                 have hw1 := hbb1.size
                 have HO1 := Lib.hid hown1
                 have HBB1 := Lib.hid hbb1
                 clear hown1 hgr1 hor1 hbb1)
              | (at_builtin
                 refine wpList_append_one (.tmp 78) (.tmp 83) rfl 32 rfl slStr rfl HO1.out rfl (S := fun _ => False) ⟨rfl, by have := hsz.out; unfold maxLen; omega⟩ (fun _ h => h.elim) (by simp; omega) (by unfold maxLen; simp; omega) (by omega) ?_
                 intro v2 w2 hown2 hgr2 hbb2
                 have hw2 := hbb2.size
                 have HO2 := Lib.hid hown2
                 have HBB2 := Lib.hid hbb2
                 have HSL2 := Lib.hid (SlIs.keep (S' := fun q => q < wo.heap.size) HSL.out (fun q hq => hq) (fun q (hq : q < wo.heap.size) => (HBB2.out.block q hq).trans (HBB1.out.block q (by omega))))
                 clear hown2 hgr2 hbb2)
              | (at_builtin
                 refine wpList_append_sl (.tmp 85) (.tmp 88) rfl 32 rfl slStr rfl HO2.out rfl (HSL2.out.drop hle (k := t) (by show t = t * 1; omega)) (fun q (hq : q < wo.heap.size) => ⟨by omega, fun e => by have := (HO2.out.own_lt q e.symm).1; omega⟩) (by simp; omega) (by unfold maxLen; simp; omega) (by omega) ?_
                 intro v3 w3 hown3 hgr3 hor3
                 have HBB3 := Lib.hid (Below.of_grown (B := wo.heap.size) (row := v2.ownBlock) hgr3 (by omega) (fun q hq => (HO2.out.own_lt q hq).1))
                 have HO3 := Lib.hid hown3
                 clear hown3 hgr3 hor3))
            all_goals
              go_roundg (l.length - (k + 1))
              case measure => omega
              case rel =>
                refine ⟨k + 1, [] ++ out.take t ++ [l[k]] ++ out.drop t, by omega, by go_num, ?_, by simp; omega, ownSl_mono HO3.out HB.out.size, ?_⟩
                · rw [HT.out, List.nil_append]
                  exact HN.out.ins HIN.out HD.out HP.out.lt (fun i hi h => HP.out.ge i hi h hi)
                · exact bl_trans HB.out (HB3.out.trans (((HBB1.out.mono hs3).trans HBB2.out).trans HBB3.out))
        obtain ⟨rfl, hg1, hg2, c1, hs1⟩ := hoc wr (fun q hq => hb3.block q hq.2) j hjl
        have HS1 := Lib.hid (show out[j].size ≤ 1000000 from hl _ (List.mem_of_mem_take (((HN.out.1.2 _).1 (List.getElem_mem hjl)).1)))
        clear hs1 hb3 c0
        have j0 : (0 : Int) ≤ (j : Int) := by omega
        have j1 : (j : Int) < (out.length : Int) := by omega
        have hst : ((out[j].toList == l[k].toList) = true ∧ Hid (out[j] = l[k])) ∨ ((out[j].toList == l[k].toList) = false ∧ Hid (¬ out[j] = l[k])) := by
          rw [str_eq]
          by_cases e : out[j] = l[k]
          · exact .inl ⟨by simp [e], e⟩
          · exact .inr ⟨by simp [e], e⟩
        have hdd : (decide (distS out[j] s < distS l[k] s) = true) ∨ (decide (distS out[j] s < distS l[k] s) = false ∧ (distS out[j] s == distS l[k] s) = true) ∨ (decide (distS out[j] s < distS l[k] s) = false ∧ (distS out[j] s == distS l[k] s) = false) := by
          simp; omega
        have hll : ltL (codes out[j]) (codes l[k]) = true ∨ ltL (codes out[j]) (codes l[k]) = false := by cases ltL (codes out[j]) (codes l[k]) <;> simp
        have hnl : (Hid (nearLt s out[j] l[k] = true) ∧ ((decide (distS out[j] s < distS l[k] s) = true) ∨ (decide (distS out[j] s < distS l[k] s) = false ∧ (distS out[j] s == distS l[k] s) = true ∧ ltL (codes out[j]) (codes l[k]) = true))) ∨
            (Hid (nearLt s out[j] l[k] = false) ∧ ((decide (distS out[j] s < distS l[k] s) = false ∧ (distS out[j] s == distS l[k] s) = true ∧ ltL (codes out[j]) (codes l[k]) = false) ∨ (decide (distS out[j] s < distS l[k] s) = false ∧ (distS out[j] s == distS l[k] s) = false))) := by
          rcases hdd with hd1 | ⟨hd1, hd2⟩ | ⟨hd1, hd2⟩
          · exact .inl ⟨near_less (of_decide_eq_true hd1), .inl hd1⟩
          · have he : distS out[j] s = distS l[k] s := by simpa using hd2
            rcases hll with hll | hll
            · exact .inl ⟨(near_eq he).trans hll, .inr ⟨hd1, hd2, hll⟩⟩
            · exact .inr ⟨(near_eq he).trans hll, .inl ⟨hd1, hd2, hll⟩⟩
          · have h1' : ¬ distS out[j] s < distS l[k] s := of_decide_eq_false hd1
            have h2' : ¬ distS out[j] s = distS l[k] s := by simpa using hd2
            exact .inr ⟨near_more (by omega), .inr ⟨hd1, hd2⟩⟩
        clear hdd hll
        rcases hst with ⟨hst, HST⟩ | ⟨hst, HST⟩ <;> rcases hnl with ⟨HNL, hd1 | ⟨hd1, hd2, hll⟩⟩ | ⟨HNL, ⟨hd1, hd2, hll⟩ | ⟨hd1, hd2⟩⟩
        all_goals
          go_wp2_with (first
            | (go_at_call 17
               refine (DistanceR_any _ _ _ HS1.out hs).mono ?_
               rintro e w4 ⟨rfl, hb4⟩
               have c1' := (hb4.cell (p := ⟨og, oo + j, none⟩) (by show og < _; have := HB3.out.size; omega)).trans c1
               have c0'' := (hb4.cell (p := ⟨b, off + k, none⟩) (by show b < _; have := HB3.out.size; have := HB.out.size; omega)).trans c0'
               have HB4 := Lib.hid hb4
               clear hb4 c1 c0')
            | go_quiet ((go_at_call 37; first | exact Calls.quiet_of (Before_quiet _ _ _ HS1.out hsz.out) | exact quiet_add (Before_quiet _ _ _ HS1.out hsz.out))))
        all_goals
          go_roundg (out.length - (j + 1))
          case measure => omega
          case rel => first
            | exact ⟨j + 1, j + 1, _, by omega, by go_num, by go_num, rfl, HP.out.yes hjl HNL.out (by first | rw [if_pos HST.out] | rw [if_neg HST.out]), by first | exact bl_trans HB3.out HB4.out | exact bl_drewN (bl_trans HB3.out HB4.out) _ | exact bl_drewN (bl_drewN (bl_trans HB3.out HB4.out) _) _⟩
            | exact ⟨j + 1, t, _, by omega, by go_num, rfl, rfl, HP.out.no hjl HNL.out (by first | rw [if_pos HST.out] | rw [if_neg HST.out]), by first | exact bl_trans HB3.out HB4.out | exact bl_drewN (bl_trans HB3.out HB4.out) _ | exact bl_drewN (bl_drewN (bl_trans HB3.out HB4.out) _) _⟩
end Go.Proofs.Ythpmclhpagcbiaa
