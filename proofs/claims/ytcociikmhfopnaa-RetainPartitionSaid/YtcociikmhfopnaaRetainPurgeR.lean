/-
  Layer 40 (retain): the walk of the reference's Purge.
-/
import Derived.Test.YtcociikmhfopnaaRetainPurge
namespace Go.Proofs.Ytcociikmhfopnaa
open Go.RowKit Go.Tw Go.Tw.Retain

set_option maxRecDepth 100000 in
set_option maxHeartbeats 2000000 in
theorem PurgeR_any (l : List Keep) (ims : List Img) (cs : List Int) (v vi vc : Value) (t : Int) (w : World) (h : PArgs l ims cs v vi vc w) (hbig : ims.length ≤ 1000000) (hholds : ∀ im ∈ ims, im.hold.length ≤ 1000000) :
    Calls Try.prog 16 #[v, vi, vc, .int .i64 t] w (PurgeOut w (purgeC l ims cs t)) := by
  obtain ⟨hl, him, hcs⟩ := h
  obtain ⟨aoi, capi, bi, offi, rfl, hni, hmi, hoi⟩ := img_open him
  obtain ⟨aoc, capc, bc, offc, rfl, hnc, hmc, hoc⟩ := ints_open hcs
  unfold maxLen at hmi hmc
  have HO := Lib.hid hoi; clear hoi
  have HC := Lib.hid hoc; clear hoc
  by_cases hk : kchkAll l = 0
  case neg =>
    have hkn : (kchkAll l != 0) = true := by simpa using hk
    have HF := Lib.hid (show purgeC l ims cs t = ([], [], kchkAll l) by unfold purgeC; rw [if_pos hk])
    clear hk
    go_enter Try.func16, Try.ntmps16
    go_wp2_with (go_at_call 13; refine (checkR_any l _ _ hl).mono ?_; rintro e w2 ⟨rfl, hb2⟩)
    go_ret3
    exact PurgeOut.err HF.out ‹_›
  have HK := Lib.hid hk; clear hk
  by_cases hlen : cs.length = ims.length
  case neg =>
    have hln : ((cs.length : Int) != (ims.length : Int)) = true := by simp; omega
    have HF := Lib.hid (show purgeC l ims cs t = ([], [], 1) by unfold purgeC; rw [if_neg (by simp [HK.out]), if_pos hlen])
    clear hlen
    go_enter Try.func16, Try.ntmps16
    go_wp2_with (go_at_call 13; refine (checkR_any l _ _ hl).mono ?_; rintro e w2 ⟨rfl, hb2⟩; rw [HK.out])
    go_ret3
    exact PurgeOut.err HF.out ‹_›
  have hln : ((cs.length : Int) != (ims.length : Int)) = false := by simp; omega
  rcases Bool.eq_false_or_eq_true (isT t) with ht | ht
  case inr =>
    have HF := Lib.hid (show purgeC l ims cs t = ([], [], 12) by unfold purgeC; rw [if_neg (by simp [HK.out]), if_neg (by simp [hlen]), if_pos ht])
    clear hlen
    go_enter Try.func16, Try.ntmps16
    go_wp2_with (first
      | (go_at_call 13; refine (checkR_any l _ _ hl).mono ?_; rintro e w2 ⟨rfl, hb2⟩; rw [HK.out])
      | (go_at_call 27; refine (isTimeR_any _ _).mono ?_; rintro e w' ⟨rfl, rfl⟩))
    go_ret3
    exact PurgeOut.err HF.out ‹_›
  have HF := Lib.hid (show purgeC l ims cs t = purgeGo l t [] [] ims cs by unfold purgeC; rw [if_neg (by simp [HK.out]), if_neg (by simp [hlen]), if_neg (by simp [ht])])
  go_enter Try.func16, Try.ntmps16
  go_wp2_with (fail)
  refine (checkR_any l _ _ hl).mono ?_
  rintro e w3 ⟨rfl, b3⟩
  rw [HK.out]
  go_wp2_with (go_at_call 27; refine (isTimeR_any _ _).mono ?_; rintro e w' ⟨rfl, rfl⟩)
  go_loopg [14, 12, 13] ims.length (fun g i v13 v14 wr => ∃ (k : Nat) (kept : List Img) (gone : List ByteArray), k + g = ims.length ∧ i = .int .i64 k ∧ purgeC l ims cs t = purgeGo l t kept gone (ims.drop k) (cs.drop k) ∧ kept.length ≤ k ∧ gone.length ≤ k ∧
    Two tImg tStr 26 9 w.heap.size wr v13 v14 kept gone ∧ Below w.heap.size w wr)
  case atStart => exact ⟨0, [], [], by omega, rfl, HF.out, Nat.zero_le _, Nat.zero_le _, Two.start, b3⟩
  case round =>
    obtain ⟨k, kept, gone, hk, rfl, he, hlk, hlg, htwo, hb⟩ := hrel
    have HE := Lib.hid he; clear he
    have HT := Lib.hid htwo; clear htwo
    by_cases hlt : k < ims.length
    case neg =>
      go_wp2
      go_ret3
      exact PurgeOut.ok (HE.out.trans (purge_end (by omega))) HT.out (Nat.le_refl _) hb
    obtain ⟨rfl, hbi1, hbi2, hv, hok, c0, c1, c2, c3, c4⟩ := HO.out wr (.of_below hb) k hlt
    obtain ⟨rfl, hbc, e0, ec⟩ := HC.out wr hb k (by omega)
    obtain ⟨hva, hvn, hvc, rfl⟩ : ∃ ao n cap, hv = .slice ao n cap := by
      obtain ⟨ao, cap, _, _, e, _⟩ := hok.hold
      exact ⟨_, _, _, e⟩
    have hlt2 : k < cs.length := by omega
    have k0 : (0 : Int) ≤ (k : Int) := by omega
    have k1 : (k : Int) < (cs.length : Int) := by omega
    have k2 : (k : Int) < (ims.length : Int) := by omega
    have bd : Below wr.heap.size wr wr.drew := (Below.refl _ _).drew
    have bW : Below w.heap.size w wr.drew := hb.trans (bd.mono hb.size)
    have hokD : ImgOk (· < wr.drew.heap.size) wr.drew ims[k] (.slice hva hvn hvc) := okWiden (box_img hok (.of_below (bd.mono hb.size))) (fun k (h : k < w.heap.size) => Nat.lt_of_lt_of_le h bW.size)
    have hlD : SlIs tKeep (· < wr.drew.heap.size) wr.drew v l := hl.step bW
    have hll := hholds _ (List.getElem_mem hlt)
    go_wp2_with (fail)
    go_region_with (
      (go_at_call 11
       (
         refine (UntilR_any l v ims[k] _ cs[k] _ hlD hokD ec).mono ?_
         rintro e w4 ⟨rfl, hb4⟩)))
    all_goals
      have HU := Lib.hid (show untilC l ims[k] cs[k] = untilV l ims[k] cs[k] by unfold untilC; rw [if_neg (by simp [HK.out])])
      have b4 : Below w.heap.size w w4 := bl_trans bW hb4
      have ok5 : ImgOk (· < w4.heap.size) w4 ims[k] (.slice hva hvn hvc) := okWiden (box_img hokD (.of_below hb4)) (fun k h => Nat.lt_of_lt_of_le h hb4.size)
      have ht4 : Two tImg tStr 26 9 w.heap.size w4 _ _ kept gone := (HT.out.below bd).below hb4
      have hbB := b4.size
      have y1 : (kept.length + 1) * 64 ≤ 140737488355328 := by omega
      have y2 : (gone.length + 1) * 16 ≤ 140737488355328 := by omega
      have y3 : kept.length + 1 ≤ maxLen := by unfold maxLen; omega
      have y4 : gone.length + 1 ≤ maxLen := by unfold maxLen; omega
      have HI := Lib.hid hok
      have sw : SameOn (· < wr.heap.size) wr w4 := .of_below (bl_trans bd hb4)
      have hbi3 : bi < wr.heap.size := Nat.lt_of_lt_of_le hbi1 hb.size
      have f0 := (sw.cell hbi3).trans c0
      have f1 := (sw.cell hbi3).trans c1
      have f2 := (sw.cell hbi3).trans c2
      have f3 := (sw.cell hbi3).trans c3
      have f4 := (sw.cell hbi3).trans c4
      clear hokD hlD hb4 c0 c1 c2 c3 c4 e0 hok sw
      rw [HU.out]
      go_wp2_with (first
        | (go_at_call 30
           (refine (copied_any ims[k] _ _ ok5 hll).mono ?_
            rintro e w5 ⟨h', rfl, hi5, hb5⟩
            obtain ⟨ao5, cap5, b5, off5, rfl, -⟩ := hi5.hold))
        | (at_builtin
           refine Two.push1 (.tmp 67) (.tmp 73) rfl 36 rfl slImg rfl ht4 ‹_› rfl (tImg_mk ‹_›) y1 y3 hbB ?_
           intro v' w6 ht6 hb6)
        | (at_builtin
           refine Two.push2 (.tmp 75) (.tmp 81) rfl 23 rfl flatStr slStr rfl ht4 rfl (S := fun _ => False) ⟨rfl, HI.out.id⟩ y2 y4 hbB ?_
           intro v' w6 ht6 hb6))
    all_goals first
      | (go_ret3
         have hh : (((untilV l ims[k] cs[k]).2 != 0) = true ∧ ((untilV l ims[k] cs[k]).2 != 32) = true) ∧ ((untilV l ims[k] cs[k]).2 != 11) = true := by assumption
         exact PurgeOut.err (HE.out.trans (purge_fail hlt hlt2 (keeps_false (by simpa using hh.1.2) (by simpa using hh.2) (.inl (by assumption))) (by assumption))) b4)
      | (go_roundg (ims.length - (k + 1))
         case measure => omega
         case rel =>
           have b6 := bl_trans b4 hb5
           refine ⟨k + 1, kept ++ [ims[k]], gone, by omega, by go_num, HE.out.trans (purge_keep hlt hlt2 (keeps_true ?_)), by simp; omega, by omega, ht6, b6.trans hb6⟩
           first
           | exact .inl (by assumption)
           | exact .inr (.inr ⟨by assumption, by assumption⟩)
           | (have hh : (((untilV l ims[k] cs[k]).2 != 0) = false ∨ ((untilV l ims[k] cs[k]).2 != 32) = false) ∨ ((untilV l ims[k] cs[k]).2 != 11) = false := by assumption
              rcases hh with (hh | hh) | hh
              · exact absurd (by simpa using hh) ‹¬ (untilV l ims[k] cs[k]).2 = 0›
              · exact absurd (by simpa using hh) ‹¬ (untilV l ims[k] cs[k]).2 = 32›
              · exact .inr (.inl (by simpa using hh))))
      | (go_roundg (ims.length - (k + 1))
         case measure => omega
         case rel =>
           have u0 : (untilV l ims[k] cs[k]).2 = 0 := by assumption
           exact ⟨k + 1, kept, gone ++ [ims[k].id], by omega, by go_num, HE.out.trans (purge_gone hlt hlt2 (keeps_false (by omega) (by omega) (.inr (by omega))) u0), by omega, by simp; omega,
             ht6, b4.trans hb6⟩)
end Go.Proofs.Ytcociikmhfopnaa
