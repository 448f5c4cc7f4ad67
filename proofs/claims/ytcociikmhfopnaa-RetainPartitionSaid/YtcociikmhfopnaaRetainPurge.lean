/-
  Layer 40 (retain): the walk of Purge.
-/
import Derived.Test.YtcociikmhfopnaaRetainNext
namespace Go.Proofs.Ytcociikmhfopnaa
open Go.RowKit Go.Tw Go.Tw.Retain

/-- what Purge answers -/
def PurgeOut (W : World) (r : List Img × List ByteArray × Int) (e : Ending) (w : World) : Prop :=
  ∃ v1 v2, e = .returned (.tuple #[v1, v2, .int .i64 r.2.2]) ∧ SlIs tImg (fun k => W.heap.size ≤ k ∧ k < w.heap.size) w v1 r.1 ∧ SlIs tStr (fun k => W.heap.size ≤ k ∧ k < w.heap.size) w v2 r.2.1 ∧ Below W.heap.size W w
theorem PurgeOut.err {W w : World} {r : List Img × List ByteArray × Int} {c : Int} (h : r = ([], [], c)) (hb : Below W.heap.size W w) : PurgeOut W r (.returned (.tuple #[.slice none 0 0, .slice none 0 0, .int .i64 c])) w := by
  subst h
  exact ⟨_, _, rfl, SlIs.nil, SlIs.nil, hb⟩

theorem PurgeOut.ok {W w : World} {r : List Img × List ByteArray × Int} {kept : List Img} {gone : List ByteArray} {v u : Value} (h : r = (kept, gone, 0)) {B : Nat} (ht : Two tImg tStr 26 9 B w v u kept gone) (hB : W.heap.size ≤ B) (hb : Below W.heap.size W w) : PurgeOut W r (.returned (.tuple #[v, u, .int .i64 0])) w := by
  subst h
  exact ⟨_, _, rfl, ht.fst.keep (fun k hk => ⟨by omega, hk.2⟩) (SameOn.refl _ _), ht.snd.keep (fun k hk => ⟨by omega, hk.2⟩) (SameOn.refl _ _), hb⟩
theorem okWiden {S S' : Nat → Prop} {w : World} {im : Img} {h : Value} (hi : ImgOk S w im h) (hs : ∀ k, S k → S' k) : ImgOk S' w im h := ⟨hi.id, hi.t, hi.p, hi.hold.keep hs (SameOn.refl _ _), hi.dg⟩

set_option maxRecDepth 100000 in
set_option maxHeartbeats 2000000 in
theorem Purge_any (l : List Keep) (ims : List Img) (cs : List Int) (v vi vc : Value) (t : Int) (w : World) (h : PArgs l ims cs v vi vc w) (hbig : ims.length ≤ 1000000) (hholds : ∀ im ∈ ims, im.hold.length ≤ 1000000) :
    Calls Try.prog 15 #[v, vi, vc, .int .i64 t] w (PurgeOut w (purgeC l ims cs t)) := by
  obtain ⟨hl, him, hcs⟩ := h
  obtain ⟨aoi, capi, bi, offi, rfl, hni, hmi, hoi⟩ := img_open him
  obtain ⟨aoc, capc, bc, offc, rfl, hnc, hmc, hoc⟩ := ints_open hcs
  unfold maxLen at hmi hmc
  have HO := Lib.hid hoi; clear hoi
  have HC := Lib.hid hoc; clear hoc
  by_cases hk : kchkAll l = 0
  case neg =>
    have hkn : (kchkAll l != 0) = true := by simpa using hk
    have HF := Lib.hid (show purgeC l ims cs t = ([], [], kchkAll l) by unfold purgeC; rw [if_pos hk])
    clear hk
    go_enter Try.func15, Try.ntmps15
    go_wp2_with (go_at_call 12; refine (check_any l _ _ hl).mono ?_; rintro e w2 ⟨rfl, hb2⟩)
    go_ret3
    exact PurgeOut.err HF.out ‹_›
  have HK := Lib.hid hk; clear hk
  by_cases hlen : cs.length = ims.length
  case neg =>
    have hln : ((cs.length : Int) != (ims.length : Int)) = true := by simp; omega
    have HF := Lib.hid (show purgeC l ims cs t = ([], [], 1) by unfold purgeC; rw [if_neg (by simp [HK.out]), if_pos hlen])
    clear hlen
    go_enter Try.func15, Try.ntmps15
    go_wp2_with (go_at_call 12; refine (check_any l _ _ hl).mono ?_; rintro e w2 ⟨rfl, hb2⟩; rw [HK.out])
    go_ret3
    exact PurgeOut.err HF.out ‹_›
  have hln : ((cs.length : Int) != (ims.length : Int)) = false := by simp; omega
  rcases Bool.eq_false_or_eq_true (isT t) with ht | ht
  case inr =>
    have HF := Lib.hid (show purgeC l ims cs t = ([], [], 12) by unfold purgeC; rw [if_neg (by simp [HK.out]), if_neg (by simp [hlen]), if_pos ht])
    clear hlen
    go_enter Try.func15, Try.ntmps15
    go_wp2_with (first
      | (go_at_call 12; refine (check_any l _ _ hl).mono ?_; rintro e w2 ⟨rfl, hb2⟩; rw [HK.out])
      | (go_at_call 28; refine (isTime_any _ _).mono ?_; rintro e w' ⟨rfl, rfl⟩))
    go_ret3
    exact PurgeOut.err HF.out ‹_›
  have HF := Lib.hid (show purgeC l ims cs t = purgeGo l t [] [] ims cs by unfold purgeC; rw [if_neg (by simp [HK.out]), if_neg (by simp [hlen]), if_neg (by simp [ht])])
  go_enter Try.func15, Try.ntmps15
  go_wp2_with (fail)
  refine (check_any l _ _ hl).mono ?_
  rintro e w2 ⟨rfl, hb2⟩
  rw [HK.out]
  go_wp2_with (go_at_call 28; refine (isTime_any _ _).mono ?_; rintro e w' ⟨rfl, rfl⟩)
  refine (rules_any l _ _ (hl.step hb2)).mono ?_
  rintro e w3 ⟨rfl, hm3, hb3⟩
  have b3 := bl_trans hb2 hb3
  have hB : w.heap.size ≤ w2.heap.size := hb2.size
  clear hb3
  go_wp2
  go_loopg [36, 13, 14] ims.length (fun g i v13 v14 wr => ∃ (k : Nat) (kept : List Img) (gone : List ByteArray), k + g = ims.length ∧ i = .int .i64 k ∧ purgeC l ims cs t = purgeGo l t kept gone (ims.drop k) (cs.drop k) ∧ kept.length ≤ k ∧ gone.length ≤ k ∧
    Two tImg tStr 26 9 w3.heap.size wr v13 v14 kept gone ∧ MapIs kInt wr w2.heap.size (ruleF l) l.length ∧ w3.heap.size ≤ wr.heap.size ∧ Below w.heap.size w wr)
  case atStart => exact ⟨0, [], [], by omega, rfl, HF.out, Nat.zero_le _, Nat.zero_le _, Two.start, hm3, Nat.le_refl _, b3⟩
  case round =>
    obtain ⟨k, kept, gone, hk, rfl, he, hlk, hlg, htwo, hm, hrB, hb⟩ := hrel
    have HE := Lib.hid he; clear he
    have HT := Lib.hid htwo; clear htwo
    by_cases hlt : k < ims.length
    case neg =>
      go_wp2
      go_ret3
      exact PurgeOut.ok (HE.out.trans (purge_end (by omega))) HT.out b3.size hb
    obtain ⟨rfl, hbi1, hbi2, hv, hok, c0, c1, c2, c3, c4⟩ := HO.out wr (.of_below hb) k hlt
    obtain ⟨rfl, hbc, e0, ec⟩ := HC.out wr hb k (by omega)
    obtain ⟨hva, hvn, hvc, rfl⟩ : ∃ ao n cap, hv = .slice ao n cap := by
      obtain ⟨ao, cap, _, _, e, _⟩ := hok.hold
      exact ⟨_, _, _, e⟩
    let W1 := wr.alloc (.cells #[.string ims[k].id, .int .i64 ims[k].t, .int .i64 ims[k].p, .slice hva hvn hvc, .int .u64 ims[k].dg] 26)
    have b1 : Below wr.heap.size wr W1 := bl_alloc (Below.refl _ _) _
    have hlt2 : k < cs.length := by omega
    have hbw : bc < wr.heap.size := Nat.lt_of_lt_of_le hbc hb.size
    have k0 : (0 : Int) ≤ (k : Int) := by omega
    have k1 : (k : Int) < (cs.length : Int) := by omega
    have hmD : MapIs kInt W1.drew w2.heap.size (ruleF l) l.length := (hm.alloc _).below (Below.refl _ _).drew
    have hokD : ImgOk (· < w.heap.size) W1.drew ims[k] (.slice hva hvn hvc) := box_img hok (.of_below (b1.drew.mono hb.size))
    have hnew : W1.drew.heap[wr.heap.size]? = some (.cells #[.string ims[k].id, .int .i64 ims[k].t, .int .i64 ims[k].p, .slice hva hvn hvc, .int .u64 ims[k].dg] 26 (0, 0)) := alloc1_0 _ _
    have HN := Lib.hid hnew; clear hnew
    have bW : Below w.heap.size w W1.drew := hb.trans (b1.drew.mono hb.size)
    have hll := hholds _ (List.getElem_mem hlt)
    go_wp2_with (fail)
    go_region_with (
      (go_at_call 25
       (
         refine (until_any l ims[k] _ _ _ _ cs[k] _ ⟨HK.out, hmD, hokD⟩ ec).mono ?_
         rintro e w4 ⟨rfl, hb4⟩)))
    all_goals
      have b4 : Below w.heap.size w _ := bl_trans bW hb4
      have hm4 : MapIs kInt _ w2.heap.size (ruleF l) l.length := hmD.below hb4
      have ok4 : ImgOk (· < w.heap.size) _ ims[k] (.slice hva hvn hvc) := box_img hokD (.of_below (hb4.mono bW.size))
      have ht4 : Two tImg tStr 26 9 w3.heap.size _ _ _ kept gone := (HT.out.below b1.drew).below hb4
      have hs4 := hb4.size
      obtain ⟨d0, d1, d2, d3, d4, df⟩ := blk5 (Below.at_old hb4 HN.out)
      have ok5 : ImgOk (· < w4.heap.size) w4 ims[k] (.slice hva hvn hvc) := okWiden ok4 (fun k (h : k < w.heap.size) => Nat.lt_of_lt_of_le h b4.size)
      have hbB : w3.heap.size ≤ w4.heap.size := by have := hrB; have := b1.drew.size; omega
      have y1 : (kept.length + 1) * 64 ≤ 140737488355328 := by omega
      have y2 : (gone.length + 1) * 16 ≤ 140737488355328 := by omega
      have y3 : kept.length + 1 ≤ maxLen := by unfold maxLen; omega
      have y4 : gone.length + 1 ≤ maxLen := by unfold maxLen; omega
      have HI := Lib.hid ok4
      have hm3lt : w2.heap.size < w3.heap.size := hm3.lt
      clear hmD hokD ok4 hb4 hm c0 c1 c2 c3 c4 e0 hok
      go_wp2_with (first
        | (go_at_call 29
           (refine (clone_any ims[k] _ _ ok5 hll).mono ?_
            rintro e w5 ⟨h', rfl, hi5, hb5⟩
            obtain ⟨ao5, cap5, b5, off5, rfl, -⟩ := hi5.hold))
        | (at_builtin
           refine Two.push1 (.tmp 68) (.tmp 71) rfl 36 rfl slImg rfl ht4 ‹_› rfl (tImg_mk ‹_›) y1 y3 hbB ?_
           intro v' w6 ht6 hb6)
        | (at_builtin
           refine Two.push2 (.tmp 76) (.tmp 79) rfl 23 rfl flatStr slStr rfl ht4 rfl (S := fun _ => False) ⟨rfl, HI.out.id⟩ y2 y4 hbB ?_
           intro v' w6 ht6 hb6))
    all_goals first
      | (go_ret3
         exact PurgeOut.err (HE.out.trans (purge_fail hlt hlt2 (keeps_false (by assumption) (by assumption) (.inl (by assumption))) (by assumption))) b4)
      | (go_roundg (ims.length - (k + 1))
         case measure => omega
         case rel =>
           have b6 := bl_trans b4 hb5
           exact ⟨k + 1, kept ++ [ims[k]], gone, by omega, by go_num, HE.out.trans (purge_keep hlt hlt2 (keeps_true (by first | exact .inl (by assumption) | exact .inr (.inl (by assumption)) | exact .inr (.inr ⟨by assumption, by assumption⟩)))), by simp; omega, by omega,
             ht6, (hm4.below hb5).kept (hb6.block _ hm3lt), by have := hb5.size; have := hb6.size; omega, b6.trans (hb6.mono b3.size)⟩)
      | (go_roundg (ims.length - (k + 1))
         case measure => omega
         case rel =>
           exact ⟨k + 1, kept, gone ++ [ims[k].id], by omega, by go_num, HE.out.trans (purge_gone hlt hlt2 (keeps_false (by assumption) (by assumption) (.inr (by omega))) (by assumption)), by omega, by simp; omega,
             ht6, hm4.kept (hb6.block _ hm3lt), by have := hb6.size; omega, b4.trans (hb6.mono b3.size)⟩)
      | (exfalso
         have hh : ((untilV l ims[k] cs[k]).2 == 32) = true ∨ ((untilV l ims[k] cs[k]).2 == 11) = true := by assumption
         rcases hh with h | h
         · exact ‹¬ (untilV l ims[k] cs[k]).2 = 32› (by simpa using h)
         · exact ‹¬ (untilV l ims[k] cs[k]).2 = 11› (by simpa using h))
end Go.Proofs.Ytcociikmhfopnaa
