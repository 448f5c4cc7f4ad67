/-
  Layer 40 (retain): the walk of Next.
-/
import Derived.Test.YtcociikmhfopnaaRetainWalk5
namespace Go.Proofs.Ytcociikmhfopnaa
open Go.RowKit Go.Tw Go.Tw.Retain

theorem fin_ib {a : Int} {b : Bool} {x : Int × Bool} (h : x = (a, b)) : Ending.returned (.tuple #[.int .i64 a, .bool b]) = .returned (.tuple #[.int .i64 x.1, .bool x.2]) := by rw [h]
/-- the arguments of Purge and Next -/
structure PArgs (l : List Keep) (ims : List Img) (cs : List Int) (v vi vc : Value) (w : World) : Prop where
  rules : SlIs tKeep (· < w.heap.size) w v l
  imgs : SlIs tImg (· < w.heap.size) w vi ims
  closed : SlIs tInt (· < w.heap.size) w vc cs

set_option maxRecDepth 100000 in
set_option maxHeartbeats 1000000 in
theorem Next_any (l : List Keep) (ims : List Img) (cs : List Int) (v vi vc : Value) (t : Int) (w : World) (h : PArgs l ims cs v vi vc w) :
    Calls Try.prog 17 #[v, vi, vc, .int .i64 t] w
      fun e w' => e = .returned (.tuple #[.int .i64 (nextC l ims cs t).1, .bool (nextC l ims cs t).2]) ∧ Below w.heap.size w w' := by
  obtain ⟨hl, him, hcs⟩ := h
  obtain ⟨aoi, capi, bi, offi, rfl, hni, hmi, hoi⟩ := img_open him
  obtain ⟨aoc, capc, bc, offc, rfl, hnc, hmc, hoc⟩ := ints_open hcs
  unfold maxLen at hmi hmc
  have HO := Lib.hid hoi; clear hoi
  have HC := Lib.hid hoc; clear hoc
  by_cases hk : kchkAll l = 0
  case neg =>
    have hkn : (kchkAll l != 0) = true := by simpa using hk
    have HF := Lib.hid (show nextC l ims cs t = (0, false) by unfold nextC; rw [if_pos (.inl hk)])
    clear hk
    go_enter Try.func17, Try.ntmps17
    go_wp2_with (go_at_call 12; refine (check_any l _ _ hl).mono ?_; rintro e w2 ⟨rfl, hb2⟩)
    go_ret2
    exact ⟨fin_ib HF.out, ‹_›⟩
  have HK := Lib.hid hk; clear hk
  by_cases hlen : cs.length = ims.length
  case neg =>
    have hln : ((cs.length : Int) != (ims.length : Int)) = true := by simp; omega
    have HF := Lib.hid (show nextC l ims cs t = (0, false) by unfold nextC; rw [if_pos (.inr hlen)])
    clear hlen
    go_enter Try.func17, Try.ntmps17
    go_wp2_with (go_at_call 12; refine (check_any l _ _ hl).mono ?_; rintro e w2 ⟨rfl, hb2⟩; rw [HK.out])
    go_ret2
    exact ⟨fin_ib HF.out, ‹_›⟩
  have hln : ((cs.length : Int) != (ims.length : Int)) = false := by simp; omega
  have HF := Lib.hid (show nextC l ims cs t = nextGo l t 0 false ims cs by unfold nextC; rw [if_neg (by simp [HK.out, hlen])])
  go_enter Try.func17, Try.ntmps17
  go_wp2_with (fail)
  refine (check_any l _ _ hl).mono ?_
  rintro e w2 ⟨rfl, hb2⟩
  rw [HK.out]
  go_wp2_with (fail)
  refine (rules_any l _ _ (hl.step hb2)).mono ?_
  rintro e w3 ⟨rfl, hm3, hb3⟩
  have b3 := bl_trans hb2 hb3
  have hB : w.heap.size ≤ w2.heap.size := hb2.size
  clear hb3
  go_wp2
  go_loopg [31, 11, 12] ims.length (fun g i le ok wr => ∃ (k : Nat) (a : Int) (o : Bool), k + g = ims.length ∧ i = .int .i64 k ∧ le = .int .i64 a ∧ ok = .bool o ∧ nextC l ims cs t = nextGo l t a o (ims.drop k) (cs.drop k) ∧ MapIs kInt wr w2.heap.size (ruleF l) l.length ∧ Below w.heap.size w wr)
  case atStart => exact ⟨0, 0, false, by omega, rfl, rfl, rfl, HF.out, hm3, b3⟩
  case round =>
    obtain ⟨k, a, o, hk, rfl, rfl, rfl, he, hm, hb⟩ := hrel
    have HE := Lib.hid he; clear he
    by_cases hlt : k < ims.length
    case neg =>
      go_wp2
      go_ret2
      exact ⟨fin_ib (HE.out.trans (next_end (by omega))), hb⟩
    obtain ⟨rfl, hbi1, hbi2, hv, hok, c0, c1, c2, c3, c4⟩ := HO.out wr (.of_below hb) k hlt
    obtain ⟨rfl, hbc, e0, ec⟩ := HC.out wr hb k (by omega)
    obtain ⟨hva, hvn, hvc, rfl⟩ : ∃ ao n cap, hv = .slice ao n cap := by
      obtain ⟨ao, cap, _, _, e, _⟩ := hok.hold
      exact ⟨_, _, _, e⟩
    let W1 := wr.alloc (.cells #[.string ims[k].id, .int .i64 ims[k].t, .int .i64 ims[k].p, .slice hva hvn hvc, .int .u64 ims[k].dg] 26)
    have b1 : Below wr.heap.size wr W1 := bl_alloc (Below.refl _ _) _
    have hlt2 : k < cs.length := by omega
    have hbw : bc < wr.heap.size := Nat.lt_of_lt_of_le hbc hb.size
    have k0 : (0 : Int) ≤ (k : Int) := by omega
    have k1 : (k : Int) < (cs.length : Int) := by omega
    have hmD : MapIs kInt W1.drew w2.heap.size (ruleF l) l.length := (hm.alloc _).below (Below.refl _ _).drew
    have hokD : ImgOk (· < w.heap.size) W1.drew ims[k] (.slice hva hvn hvc) := box_img hok (.of_below (b1.drew.mono hb.size))
    go_wp2_with (fail)
    go_region_with (
      (go_at_call 25
       (
         go_loud (refine (until_any l ims[k] _ _ _ _ cs[k] _ ⟨HK.out, hmD, hokD⟩ ec).mono ?_)
         rintro e w4' ⟨rfl, hb4⟩)))
    all_goals
      have b4 : Below w.heap.size w _ := bl_trans (hb.trans (b1.drew.mono hb.size)) hb4
      have hm4 : MapIs kInt _ w2.heap.size (ruleF l) l.length := hmD.below hb4
      clear hmD hokD hb4 hm c0 c1 c2 c3 c4 e0 hok
      go_wp2
    all_goals
      go_roundg (ims.length - (k + 1))
      case measure => omega
      case rel => first
        | exact ⟨k + 1, (untilV l ims[k] cs[k]).1, true, by omega, by go_num, rfl, rfl, HE.out.trans (next_take hlt hlt2 (by assumption) (by omega) (.inr (by omega))), hm4, b4⟩
        | exact ⟨k + 1, (untilV l ims[k] cs[k]).1, true, by omega, by go_num, rfl, rfl, HE.out.trans (next_take hlt hlt2 (by assumption) (by omega) (.inl (by simpa using ‹¬ o = true›))), hm4, b4⟩
        | exact ⟨k + 1, a, o, by omega, by go_num, rfl, (by first | rfl | simp only [*]), HE.out.trans (next_skip hlt hlt2 (by first | exact .inl (by assumption) | exact .inr (.inl (by omega)) | exact .inr (.inr ⟨by assumption, by omega⟩))), hm4, b4⟩

set_option maxRecDepth 100000 in
set_option maxHeartbeats 1000000 in
theorem NextR_any (l : List Keep) (ims : List Img) (cs : List Int) (v vi vc : Value) (t : Int) (w : World) (h : PArgs l ims cs v vi vc w) :
    Calls Try.prog 18 #[v, vi, vc, .int .i64 t] w
      fun e w' => e = .returned (.tuple #[.int .i64 (nextC l ims cs t).1, .bool (nextC l ims cs t).2]) ∧ Below w.heap.size w w' := by
  obtain ⟨hl, him, hcs⟩ := h
  obtain ⟨aoi, capi, bi, offi, rfl, hni, hmi, hoi⟩ := img_open him
  obtain ⟨aoc, capc, bc, offc, rfl, hnc, hmc, hoc⟩ := ints_open hcs
  unfold maxLen at hmi hmc
  have HO := Lib.hid hoi; clear hoi
  have HC := Lib.hid hoc; clear hoc
  by_cases hk : kchkAll l = 0
  case neg =>
    have hkn : (kchkAll l != 0) = true := by simpa using hk
    have HF := Lib.hid (show nextC l ims cs t = (0, false) by unfold nextC; rw [if_pos (.inl hk)])
    clear hk
    go_enter Try.func18, Try.ntmps18
    go_wp2_with (go_at_call 13; refine (checkR_any l _ _ hl).mono ?_; rintro e w2 ⟨rfl, hb2⟩)
    go_ret2
    exact ⟨fin_ib HF.out, ‹_›⟩
  have HK := Lib.hid hk; clear hk
  by_cases hlen : cs.length = ims.length
  case neg =>
    have hln : ((cs.length : Int) != (ims.length : Int)) = true := by simp; omega
    have HF := Lib.hid (show nextC l ims cs t = (0, false) by unfold nextC; rw [if_pos (.inr hlen)])
    clear hlen
    go_enter Try.func18, Try.ntmps18
    go_wp2_with (go_at_call 13; refine (checkR_any l _ _ hl).mono ?_; rintro e w2 ⟨rfl, hb2⟩; rw [HK.out])
    go_ret2
    exact ⟨fin_ib HF.out, ‹_›⟩
  have hln : ((cs.length : Int) != (ims.length : Int)) = false := by simp; omega
  have HF := Lib.hid (show nextC l ims cs t = nextGo l t 0 false ims cs by unfold nextC; rw [if_neg (by simp [HK.out, hlen])])
  go_enter Try.func18, Try.ntmps18
  go_wp2_with (fail)
  refine (checkR_any l _ _ hl).mono ?_
  rintro e w2 ⟨rfl, hb2⟩
  rw [HK.out]
  go_wp2
  go_loopg [12, 10, 11] ims.length (fun g i le ok wr => ∃ (k : Nat) (a : Int) (o : Bool), k + g = ims.length ∧ i = .int .i64 k ∧ le = .int .i64 a ∧ ok = .bool o ∧ nextC l ims cs t = nextGo l t a o (ims.drop k) (cs.drop k) ∧ Below w.heap.size w wr)
  case atStart => exact ⟨0, 0, false, by omega, rfl, rfl, rfl, HF.out, hb2⟩
  case round =>
    obtain ⟨k, a, o, hk, rfl, rfl, rfl, he, hb⟩ := hrel
    have HE := Lib.hid he; clear he
    by_cases hlt : k < ims.length
    case neg =>
      go_wp2
      go_ret2
      exact ⟨fin_ib (HE.out.trans (next_end (by omega))), hb⟩
    obtain ⟨rfl, hbi1, hbi2, hv, hok, c0, c1, c2, c3, c4⟩ := HO.out wr (.of_below hb) k hlt
    obtain ⟨rfl, hbc, e0, ec⟩ := HC.out wr hb k (by omega)
    obtain ⟨hva, hvn, hvc, rfl⟩ : ∃ ao n cap, hv = .slice ao n cap := by
      obtain ⟨ao, cap, _, _, e, _⟩ := hok.hold
      exact ⟨_, _, _, e⟩
    have hlt2 : k < cs.length := by omega
    have k0 : (0 : Int) ≤ (k : Int) := by omega
    have k1 : (k : Int) < (cs.length : Int) := by omega
    have k2 : (k : Int) < (ims.length : Int) := by omega
    have bd : Below wr.heap.size wr wr.drew := (Below.refl _ _).drew
    have hokD : ImgOk (· < wr.drew.heap.size) wr.drew ims[k] (.slice hva hvn hvc) := ⟨hok.id, hok.t, hok.p, hok.hold.keep (fun k (h : k < w.heap.size) => Nat.lt_of_lt_of_le h (hb.trans (bd.mono hb.size)).size) (.of_below (bd.mono hb.size)), hok.dg⟩
    have hlD : SlIs tKeep (· < wr.drew.heap.size) wr.drew v l := hl.step (hb.trans (bd.mono hb.size))
    go_wp2_with (fail)
    go_region_with (
      (go_at_call 11
       (
         refine (UntilR_any l v ims[k] _ cs[k] _ hlD hokD ec).mono ?_
         rintro e w4' ⟨rfl, hb4⟩)))
    all_goals
      have b4 : Below w.heap.size w _ := bl_trans (hb.trans (bd.mono hb.size)) hb4
      have HU := Lib.hid (show untilC l ims[k] cs[k] = untilV l ims[k] cs[k] by unfold untilC; rw [if_neg (by simp [HK.out])])
      clear hokD hlD hb4 c0 c1 c2 c3 c4 e0 hok
      rw [HU.out]
      go_wp2
    all_goals
      go_roundg (ims.length - (k + 1))
      case measure => omega
      case rel =>
        first
        | exact ⟨k + 1, (untilV l ims[k] cs[k]).1, true, by omega, by go_num, rfl, rfl, HE.out.trans (next_take hlt hlt2 (by assumption) (by omega) (.inr (by omega))), b4⟩
        | exact ⟨k + 1, (untilV l ims[k] cs[k]).1, true, by omega, by go_num, rfl, rfl, HE.out.trans (next_take hlt hlt2 (by assumption) (by omega) (.inl (by simpa using ‹¬ o = true›))), b4⟩
        | exact ⟨k + 1, a, o, by omega, by go_num, rfl, (by first | rfl | simp only [*]), HE.out.trans (next_skip hlt hlt2 (by first | exact .inl (by assumption) | exact .inr (.inl (by omega)) | exact .inr (.inr ⟨by assumption, by omega⟩))), b4⟩
end Go.Proofs.Ytcociikmhfopnaa
