/-
  Layer 40 (retain): the walks of the reference's Check and Until.
-/
import Derived.Test.YtcociikmhfopnaaRetainWalk2
namespace Go.Proofs.Ytcociikmhfopnaa
open Go.RowKit Go.Tw Go.Tw.Retain

set_option maxRecDepth 100000 in
set_option maxHeartbeats 1000000 in
theorem checkR_any (l : List Keep) (v : Value) (w : World) (h : SlIs tKeep (· < w.heap.size) w v l) :
    Calls Try.prog 13 #[v] w fun e w' => e = .returned (.int .i64 (kchkAll l)) ∧ Below w.heap.size w w' := by
  obtain ⟨ao, cap, b, off, rfl, hl, hm, ho⟩ := keep_open h
  unfold maxLen at hm
  clear h
  by_cases h4 : 4 < l.length
  · go_enter Try.func13, Try.ntmps13
    go_wp2
    go_ret
    exact ⟨ret_int (by simp [kchkAll, h4]), Below.refl _ _⟩
  go_enter Try.func13, Try.ntmps13
  go_wp2
  go_loopg [3] l.length (fun g i wr => ∃ k : Nat, k + g = l.length ∧ i = .int .i64 k ∧ kchkAll l = kchk (l.take k) (l.drop k) ∧ Below w.heap.size w wr)
  case atStart => exact ⟨0, by omega, rfl, by rw [kchkAll, if_neg h4]; rfl, Below.refl _ _⟩
  case round =>
    obtain ⟨k, hk, rfl, he, hb1⟩ := hrel
    have HE := Lib.hid he; clear he
    by_cases hlt : k < l.length
    case neg =>
      clear ho
      go_wp2
      go_ret
      refine ⟨?_, hb1⟩
      rw [HE.out, kchk_end (by omega)]; rfl
    obtain ⟨rfl, hb, c0, c1, c2, -⟩ := ho wr hb1 k hlt
    have k0 : (0 : Int) ≤ (k : Int) := by omega
    have k1 : (k : Int) < (l.length : Int) := by omega
    by_cases q0 : l[k].p < 1
    · clear ho
      go_wp2
      go_ret
      refine ⟨ret_int (b := 1) (HE.out.trans (kchk_1 hlt ?_)), hb1⟩
      omega
    by_cases q1 : 4 < l[k].p
    · clear ho
      go_wp2
      go_ret
      refine ⟨ret_int (b := 1) (HE.out.trans (kchk_1 hlt ?_)), hb1⟩
      omega
    have HO := Lib.hid ho; clear ho
    go_wp2
    have ho := HO.out; clear HO
    obtain ⟨wo, hwo⟩ : ∃ wo : World, wo = wr := ⟨_, rfl⟩
    subst hwo
    obtain ⟨g0, hg0⟩ : ∃ g0 : Nat, g0 = gk := ⟨_, rfl⟩
    subst hg0
    go_loopg [4] k (fun g i wi => ∃ j : Nat, j + g = k ∧ i = .int .i64 j ∧ ((l.take j).any fun p => p.p == l[k].p) = false ∧ Below w.heap.size w wi)
    case atStart => exact ⟨0, by omega, rfl, rfl, hb1⟩
    case round =>
      obtain ⟨j, hj, rfl, ha, hb2⟩ := hrel
      have HA := Lib.hid ha; clear ha
      obtain ⟨_, _, f0, f1, f2, -⟩ := ho wr hb2 k hlt
      by_cases hjk : j < k
      · obtain ⟨_, _, e0, e1, e2, -⟩ := ho wr hb2 j (by omega)
        have j0 : (0 : Int) ≤ (j : Int) := by omega
        have j1 : (j : Int) < (l.length : Int) := by omega
        clear ho c0 c1 c2
        rcases Bool.eq_false_or_eq_true (l[j].p == l[k].p) with hq | hq
        · go_wp2_with (go_quiet (fail))
          go_ret
          refine ⟨ret_int (b := 9) (HE.out.trans (kchk_9 hlt ?_ ?_ ?_)), bl_drewN hb2 _⟩
          · omega
          · omega
          · exact kany_at hjk (by omega) hq
        · go_wp2_with (go_quiet (fail))
          go_roundg (k - (j + 1))
          case measure => omega
          case rel => exact ⟨j + 1, by omega, by go_num, kany_on (by omega) HA.out hq, bl_drewN hb2 _⟩
      · obtain rfl : k = j := by omega
        clear ho c0 c1 c2
        go_wp2
        all_goals first
          | (go_ret; refine ⟨ret_int (b := 12) (HE.out.trans (kchk_12 hlt ?_ ?_ HA.out ?_)), hb2⟩ <;> omega)
          | (go_roundg (l.length - (k + 1))
             case measure => omega
             case rel =>
               refine ⟨k + 1, by omega, by go_num, HE.out.trans (kchk_on hlt ?_ ?_ HA.out ?_), hb2⟩ <;> omega)

theorem rule_at {l : List Keep} {p : Int} {k : Nat} (hk : k < l.length) (hp : l[k].p = p) (hno : ∀ j (h : j < k), (l[j]'(by omega)).p ≠ p) : ruleOf l p = some l[k] := by
  unfold ruleOf
  rw [List.find?_eq_some_iff_getElem]
  exact ⟨by simpa using hp, k, hk, rfl, fun j hj => by simpa using hno j hj⟩
theorem rule_none {l : List Keep} {p : Int} (hno : ∀ j (h : j < l.length), l[j].p ≠ p) : ruleOf l p = none := by
  unfold ruleOf
  rw [List.find?_eq_none]
  intro x hx
  obtain ⟨j, hj, rfl⟩ := List.mem_iff_getElem.1 hx
  simpa using hno j hj

set_option maxRecDepth 100000 in
set_option maxHeartbeats 2000000 in
theorem UntilR_any (l : List Keep) (v : Value) (im : Img) (h : Value) (c : Int) (w : World) (hl : SlIs tKeep (· < w.heap.size) w v l) (hi : ImgOk (· < w.heap.size) w im h) (hc : i64ok c) :
    Calls Try.prog 11 #[v, .agg #[.string im.id, .int .i64 im.t, .int .i64 im.p, h, .int .u64 im.dg], .int .i64 c] w
      fun e w' => e = .returned (.tuple #[.int .i64 (untilC l im c).1, .int .i64 (untilC l im c).2]) ∧ Below w.heap.size w w' := by
  obtain ⟨ha, hcp, bb, boff, rfl, hn1, hn2, -⟩ := strs_open hi.hold
  obtain ⟨ao, cap, b, off, rfl, hlc, hm, ho⟩ := keep_open hl
  unfold maxLen at hm hn2
  let W1 := w.alloc (.cells #[.string im.id, .int .i64 im.t, .int .i64 im.p, .slice ha im.hold.length hcp, .int .u64 im.dg] 26)
  have b1 : Below w.heap.size w W1 := bl_alloc (Below.refl _ _) _
  have hs1 : w.heap.size < W1.heap.size := by simp [W1]
  have it := hi.t
  unfold i64ok at it hc
  obtain ⟨it1, it2⟩ := it
  obtain ⟨ic1, ic2⟩ := hc
  by_cases hk : kchkAll l = 0
  case neg =>
    have hkn : (kchkAll l != 0) = true := by simpa using hk
    have HF := Lib.hid (show untilC l im c = (0, kchkAll l) by unfold untilC; rw [if_pos hk])
    clear hk ho
    go_enter Try.func11, Try.ntmps11
    go_wp2_with (go_at_call 13; refine (checkR_any l _ _ (hl.step b1)).mono ?_; rintro e w2 ⟨rfl, hb2⟩)
    go_ret2
    exact ⟨fin_two HF.out, bl_trans b1 ‹_›⟩
  have HF := Lib.hid (show untilC l im c = untilV l im c by unfold untilC; rw [if_neg (by simpa using hk)])
  have HK := Lib.hid hk
  clear hk
  have HO := Lib.hid ho; clear ho
  by_cases hcc : c = -1 ∨ isT c = true
  case neg =>
    have hc1 : ¬ c = -1 := fun h => hcc (.inl h)
    have hc2 : isT c = false := by
      cases e : isT c with
      | false => rfl
      | true => exact absurd (.inr e) hcc
    have hcn : (c != -1) = true := by simpa using hc1
    have HV := Lib.hid (show untilV l im c = (0, 12) by unfold untilV; rw [if_pos (.inr ⟨hc1, hc2⟩)])
    clear hc1 hcc
    rcases Bool.eq_false_or_eq_true (isT im.t) with ht | ht
    all_goals
      go_enter Try.func11, Try.ntmps11
      go_wp2_with (first
        | (go_at_call 13; refine (checkR_any l _ _ (hl.step b1)).mono ?_; rintro e w2 ⟨rfl, hb2⟩; rw [HK.out]; obtain ⟨d0, d1, d2, d3, d4, -⟩ := blk5 (below_new hb2 hs1))
        | (go_at_call 27; refine (isTimeR_any _ _).mono ?_; rintro e w' ⟨rfl, rfl⟩))
      go_ret2
      exact ⟨fin_two (HF.out.trans HV.out), bl_trans b1 ‹_›⟩
  rcases Bool.eq_false_or_eq_true (isT im.t) with ht | ht
  case inr =>
    have HV := Lib.hid (show untilV l im c = (0, 12) by unfold untilV; rw [if_pos (.inl ht)])
    clear hcc
    go_enter Try.func11, Try.ntmps11
    go_wp2_with (first
      | (go_at_call 13; refine (checkR_any l _ _ (hl.step b1)).mono ?_; rintro e w2 ⟨rfl, hb2⟩; rw [HK.out]; obtain ⟨d0, d1, d2, d3, d4, -⟩ := blk5 (below_new hb2 hs1))
      | (go_at_call 27; refine (isTimeR_any _ _).mono ?_; rintro e w' ⟨rfl, rfl⟩))
    go_ret2
    exact ⟨fin_two (HF.out.trans HV.out), bl_trans b1 ‹_›⟩
  have tb : 0 ≤ im.t ∧ im.t < 68719476736 := by simpa [isT] using ht
  have cb : c = -1 ∨ (isT c = true ∧ 0 ≤ c ∧ c < 68719476736) := by
    rcases hcc with h | h
    · exact .inl h
    · exact .inr ⟨h, by simpa [isT] using h⟩
  have cn : ¬ (isT im.t = false ∨ (c ≠ -1 ∧ isT c = false)) := by
    rintro (h | ⟨h1, h2⟩)
    · rw [ht] at h; cases h
    · rcases cb with h | ⟨h, _⟩
      · exact h1 h
      · rw [h2] at h; cases h
  have HV : Hid (untilV l im c = untilK im c (ruleOf l im.p)) := by
    show _ = _
    unfold untilV; rw [if_neg cn]
  have CB := Lib.hid cb
  clear hcc cn
  obtain ⟨v1, v2, v3⟩ := valid_of HK.out
  have V2 := Lib.hid v2
  clear v3 v2
  have htest : (isT c = true) ∨ (isT c = false ∧ (c != -1) = false) := by
    rcases CB.out with h | ⟨h, _⟩
    · subst h; exact .inr ⟨rfl, rfl⟩
    · exact .inl h
  rcases htest with hct | ⟨hct, hct2⟩
  all_goals
    go_enter Try.func11, Try.ntmps11
    go_wp2_with (first
      | (go_at_call 13; refine (checkR_any l _ _ (hl.step b1)).mono ?_; rintro e w2 ⟨rfl, hb2⟩; rw [HK.out]; obtain ⟨d0, d1, d2, d3, d4, -⟩ := blk5 (below_new hb2 hs1))
      | (go_at_call 27; refine (isTimeR_any _ _).mono ?_; rintro e w' ⟨rfl, rfl⟩))
    have hn : w2.heap[w.heap.size]? = _ := below_new hb2 hs1
    have HN := Lib.hid hn
    have b2 := bl_trans b1 hb2
    have hs2 : w.heap.size < w2.heap.size := Nat.lt_of_lt_of_le hs1 hb2.size
    clear hn d0 d1 d2 d3 d4 hb2
    go_loopg [9] l.length (fun g i wr => ∃ j : Nat, j + g = l.length ∧ i = .int .i64 j ∧ (∀ i (h : i < j) (h2 : j ≤ l.length), (l[i]'(by omega)).p ≠ im.p) ∧ Below w2.heap.size w2 wr)
    case atStart => exact ⟨0, by omega, rfl, fun i h => absurd h (Nat.not_lt_zero _), Below.refl _ _⟩
    case round =>
      obtain ⟨j, hj, rfl, hno, hb3⟩ := hrel
      have HNO := Lib.hid hno; clear hno
      have b3 := bl_trans b2 hb3
      obtain ⟨d0, d1, d2, d3, d4, -⟩ := blk5 ((hb3.block _ hs2).trans HN.out)
      by_cases hlt : j < l.length
      case neg =>
        go_wp2
        go_ret2
        refine ⟨fin_two (HF.out.trans (HV.out.trans ?_)), b3⟩
        rw [rule_none (fun i h => HNO.out i (by omega) (by omega))]; rfl
      obtain ⟨rfl, hb, c0, c1, c2, -⟩ := HO.out wr b3 j hlt
      have j0 : (0 : Int) ≤ (j : Int) := by omega
      have j1 : (j : Int) < (l.length : Int) := by omega
      clear b2
      by_cases hp : l[j].p = im.p
      case neg =>
        have hpn : (l[j].p != im.p) = true := by simpa using hp
        have HP := Lib.hid hp; clear hp
        go_wp2_with (go_quiet (fail))
        go_roundg (l.length - (j + 1))
        case measure => omega
        case rel =>
          refine ⟨j + 1, by omega, by go_num, fun i h h2 => ?_, bl_drewN hb3 _⟩
          by_cases e : i = j
          · subst e; exact HP.out
          · exact HNO.out i (by omega) (by omega)
      have hr : ruleOf l im.p = some l[j] := rule_at hlt hp (fun i h => HNO.out i h (by omega))
      have HR := Lib.hid hr; clear hr
      have hpn : (l[j].p != im.p) = false := by simpa using hp
      clear hp
      obtain ⟨k1, k2, k3, k4⟩ := V2.out l[j] (List.getElem_mem _)
      by_cases hh : 0 < im.hold.length
      · go_wp2_with (go_quiet (fail))
        go_ret2
        refine ⟨fin_two (HF.out.trans (HV.out.trans ?_)), bl_drewN b3 _⟩
        rw [HR.out, untilK, if_pos hh]
      have hh0 : ¬ (0 : Int) < (im.hold.length : Int) := by omega
      by_cases hc1 : c = -1
      · subst hc1
        go_wp2_with (go_quiet (fail))
        go_ret2
        refine ⟨fin_two (HF.out.trans (HV.out.trans ?_)), bl_drewN b3 _⟩
        rw [HR.out, untilK, if_neg hh]; rfl
      have hc2 : 0 ≤ c ∧ c < 68719476736 := by
        rcases CB.out with h | ⟨_, h⟩
        · exact absurd h hc1
        · exact h
      obtain ⟨hc2, hc3⟩ := hc2
      have hce : (c == -1) = false := by simpa using hc1
      have hu : untilK im c (some l[j]) = (max (im.t + l[j].s) (c + l[j].l), 0) := by rw [untilK, if_neg hh, if_neg hc1]
      have HU := Lib.hid hu; clear hu hc1 hh
      have w1 : IntKind.i64.wrap (c + l[j].l) = c + l[j].l := wrap_in (by omega) (by omega)
      have w2' : IntKind.i64.wrap (im.t + l[j].s) = im.t + l[j].s := wrap_in (by omega) (by omega)
      by_cases hmx : im.t + l[j].s < c + l[j].l
      · go_wp2_with (go_quiet (fail))
        go_ret2
        refine ⟨fin_two (HF.out.trans (HV.out.trans ?_)), ?_⟩
        · rw [HR.out, HU.out]; congr 1; omega
        · repeat (first | exact b3 | apply bl_drewN)
      · have hmx' : decide (im.t + l[j].s < c + l[j].l) = false := by simpa using hmx
        go_wp2_with (go_quiet (fail))
        go_ret2
        refine ⟨fin_two (HF.out.trans (HV.out.trans ?_)), ?_⟩
        · rw [HR.out, HU.out]; congr 1; omega
        · repeat (first | exact b3 | apply bl_drewN)
end Go.Proofs.Ytcociikmhfopnaa
