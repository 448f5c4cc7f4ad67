/-
  Layer 40 (retain): the walks: the map of rules, until, Until; the reference's Check and Until.
-/
import Derived.Test.YtcociikmhfopnaaRetainWalk
namespace Go.Proofs.Ytcociikmhfopnaa
open Go.RowKit Go.Tw Go.Tw.Retain

def keepVal (r : Keep) : Value := .agg #[.int .i64 r.p, .int .i64 r.s, .int .i64 r.l]
def ruleF (l : List Keep) : Int → Option Value := fun p => (lastRule l p).map keepVal
theorem ruleF_snoc (l : List Keep) (r : Keep) (y : Int) : (if y = r.p then some (keepVal r) else ruleF l y) = ruleF (l ++ [r]) y := by
  unfold ruleF
  rw [lastRule_snoc]
  split <;> rfl

set_option maxRecDepth 100000 in
set_option maxHeartbeats 1000000 in
theorem rules_any (l : List Keep) (v : Value) (w : World) (h : SlIs tKeep (· < w.heap.size) w v l) :
    Calls Try.prog 26 #[v] w fun e w' => e = .returned (.map (some w.heap.size)) ∧ MapIs kInt w' w.heap.size (ruleF l) l.length ∧ Below w.heap.size w w' := by
  obtain ⟨ao, cap, b, off, rfl, hl, hm, ho⟩ := keep_open h
  unfold maxLen at hm
  clear h
  have hmm := @run_makeMap Try.prog
  go_enter Try.func26, Try.ntmps26
  go_wp2
  clear hmm
  go_loopg [9] l.length (fun g i wr => ∃ k : Nat, k + g = l.length ∧ i = .int .i64 k ∧ MapIs kInt wr w.heap.size (ruleF (l.take k)) k ∧ Below w.heap.size w wr)
  case atStart => exact ⟨0, by omega, rfl, MapIs.made _, bl_alloc (Below.refl _ _) _⟩
  case round =>
    obtain ⟨k, hk, rfl, hs, hb1⟩ := hrel
    by_cases hlt : k < l.length
    · obtain ⟨rfl, hb, c0, c1, c2, -⟩ := ho wr hb1 k hlt
      have hS := hs.lt
      clear ho
      have hne : some w.heap.size ≠ some wr.heap.size := by simp; omega
      go_wp2_with (at_mapUpdate; refine wpList_put (.tmp 13) (.tmp 15) (.tmp 16) rfl 59 rfl Try.underlying59 Try.underlying3 (hs.alloc _) rfl l[k].p (.int .i64 l[k].p) (keepVal l[k]) rfl rfl rfl ?_; intro w1 hs1 hg1)
      go_roundg (l.length - (k + 1))
      case measure => omega
      case rel =>
        refine ⟨k + 1, by omega, by go_num, ?_, (bl_alloc hb1 _).trans (Below.of_grown ‹_› (by simp; omega) (fun k hk => by simp at hk; omega))⟩
        rw [List.take_succ_eq_append_getElem hlt]
        exact MapIs.ext ‹_› (ruleF_snoc _ _)
    · clear ho
      rw [List.take_of_length_le (by omega)] at hs
      have e : k = l.length := by omega
      rw [e] at hs
      go_wp2
      go_ret
      exact ⟨rfl, hs, hb1⟩

/-- what until is handed -/
structure UArgs (l : List Keep) (im : Img) (S : Nat → Prop) (w : World) (b n : Nat) (h : Value) : Prop where
  valid : kchkAll l = 0
  map : MapIs kInt w b (ruleF l) n
  img : ImgOk S w im h

theorem fin_two {a b : Int} {x : Int × Int} (h : x = (a, b)) : Ending.returned (.tuple #[.int .i64 a, .int .i64 b]) = .returned (.tuple #[.int .i64 x.1, .int .i64 x.2]) := by rw [h]

set_option maxRecDepth 100000 in
set_option maxHeartbeats 1000000 in
theorem until_any (l : List Keep) (im : Img) (S : Nat → Prop) (b n : Nat) (h : Value) (c : Int) (w : World) (hu : UArgs l im S w b n h) (hc : i64ok c) :
    Calls Try.prog 25 #[.map (some b), .agg #[.string im.id, .int .i64 im.t, .int .i64 im.p, h, .int .u64 im.dg], .int .i64 c] w
      fun e w' => e = .returned (.tuple #[.int .i64 (untilV l im c).1, .int .i64 (untilV l im c).2]) ∧ Below w.heap.size w w' := by
  obtain ⟨hv, hm, hi⟩ := hu
  obtain ⟨v1, v2, v3⟩ := valid_of hv
  obtain ⟨ao, cap, bb, off, rfl, h1, h2, -⟩ := strs_open hi.hold
  unfold maxLen at h2
  have hlt := hm.lt
  have hz : ∀ w : World, (zeroValue 57).run Try.prog w = .ok (.agg #[.int .i64 0, .int .i64 0, .int .i64 0]) w := fun w => by kernel_rfl
  have hlk := fun o => (hm.alloc o).look Try.underlying59 Try.underlying3 (hz _) im.p true
  have hrule : ruleF l im.p = (ruleOf l im.p).map keepVal := by rw [ruleF, lastRule_eq v3]
  rw [hrule] at hlk
  have it := hi.t
  unfold i64ok at it hc
  obtain ⟨it1, it2⟩ := it
  obtain ⟨ic1, ic2⟩ := hc
  clear hz hrule hi hv hm v1 v3
  by_cases t1 : isT im.t = true
  case neg =>
    have t1' : isT im.t = false := by simpa using t1
    have HF := Lib.hid (show untilV l im c = (0, 12) by unfold untilV; rw [if_pos (.inl t1')])
    clear t1 hlk v2
    go_enter Try.func25, Try.ntmps25
    go_wp2_with (go_at_call 28; refine (isTime_any _ _).mono ?_; rintro e w' ⟨rfl, rfl⟩)
    go_ret2
    exact ⟨fin_two HF.out, bl_alloc (Below.refl _ _) _⟩
  have tb : 0 ≤ im.t ∧ im.t < 68719476736 := by simpa [isT] using t1
  have hcc : c = -1 ∨ (isT c = false ∧ c ≠ -1) ∨ (isT c = true ∧ c ≠ -1 ∧ 0 ≤ c ∧ c < 68719476736) := by
    by_cases e : c = -1
    · exact .inl e
    · by_cases e2 : isT c = true
      · exact .inr (.inr ⟨e2, e, by simpa [isT] using e2⟩)
      · exact .inr (.inl ⟨by simpa using e2, e⟩)
  rcases hcc with rfl | ⟨t2, hc1⟩ | ⟨t2, hc1, hc2, hc3⟩
  case inr.inl =>
    have HF := Lib.hid (show untilV l im c = (0, 12) by unfold untilV; rw [if_pos (.inr ⟨hc1, t2⟩)])
    have hcn : (c != -1) = true := by simpa using hc1
    clear hlk v2 hc1
    go_enter Try.func25, Try.ntmps25
    go_wp2_with (go_at_call 28; refine (isTime_any _ _).mono ?_; rintro e w' ⟨rfl, rfl⟩)
    go_ret2
    exact ⟨fin_two HF.out, bl_alloc (Below.refl _ _) _⟩
  case inl =>
    cases hr : ruleOf l im.p with
    | none =>
      rw [hr] at hlk
      have HF := Lib.hid (show untilV l im (-1) = (0, 10) by unfold untilV; rw [if_neg (by simp [t1]), hr]; rfl)
      clear hr v2
      simp only [Option.map_none, Option.getD_none, Option.isSome_none, if_true, kInt] at hlk
      go_enter Try.func25, Try.ntmps25
      go_wp2_with (go_at_call 28; refine (isTime_any _ _).mono ?_; rintro e w' ⟨rfl, rfl⟩)
      go_ret2
      exact ⟨fin_two HF.out, by (repeat (first | (with_reducible exact (Below.refl _ _)) | (with_reducible apply bl_drewN) | (with_reducible apply bl_alloc) | ((with_reducible refine bl_set ?_ _ ?_); rotate_left; focus (first | exact Nat.le_refl _ | (simp; done) | (simp; omega)))))⟩
    | some k =>
      rw [hr] at hlk
      have hk := v2 k (ruleOf_mem hr).1
      obtain ⟨k1, k2, k3, k4⟩ := hk
      simp only [Option.map_some, Option.getD_some, Option.isSome_some, if_true, kInt, keepVal] at hlk
      by_cases hh : 0 < im.hold.length
      · have HF := Lib.hid (show untilV l im (-1) = (0, 32) by unfold untilV; rw [if_neg (by simp [t1]), hr]; simp only [untilK]; rw [if_pos hh])
        clear hr v2
        go_enter Try.func25, Try.ntmps25
        go_wp2_with (go_at_call 28; refine (isTime_any _ _).mono ?_; rintro e w' ⟨rfl, rfl⟩)
        go_ret2
        exact ⟨fin_two HF.out, by (repeat (first | (with_reducible exact (Below.refl _ _)) | (with_reducible apply bl_drewN) | (with_reducible apply bl_alloc) | ((with_reducible refine bl_set ?_ _ ?_); rotate_left; focus (first | exact Nat.le_refl _ | (simp; done) | (simp; omega)))))⟩
      · have HF := Lib.hid (show untilV l im (-1) = (0, 11) by unfold untilV; rw [if_neg (by simp [t1]), hr]; simp only [untilK]; rw [if_neg hh]; rfl)
        have hh0 : ¬ (0 : Int) < (im.hold.length : Int) := by omega
        clear hr v2
        go_enter Try.func25, Try.ntmps25
        go_wp2_with (go_at_call 28; refine (isTime_any _ _).mono ?_; rintro e w' ⟨rfl, rfl⟩)
        go_ret2
        exact ⟨fin_two HF.out, by (repeat (first | (with_reducible exact (Below.refl _ _)) | (with_reducible apply bl_drewN) | (with_reducible apply bl_alloc) | ((with_reducible refine bl_set ?_ _ ?_); rotate_left; focus (first | exact Nat.le_refl _ | (simp; done) | (simp; omega)))))⟩
  case inr.inr =>
    have hcn : (c != -1) = true := by simpa using hc1
    have hce : (c == -1) = false := by simpa using hc1
    have hc1' := Lib.hid hc1; clear hc1
    have hc1 := hc1'.out
    cases hr : ruleOf l im.p with
    | none =>
      rw [hr] at hlk
      have HF := Lib.hid (show untilV l im c = (0, 10) by unfold untilV; rw [if_neg (by simp [t1, t2]), hr]; rfl)
      clear hr v2
      simp only [Option.map_none, Option.getD_none, Option.isSome_none, if_true, kInt] at hlk
      go_enter Try.func25, Try.ntmps25
      go_wp2_with (go_at_call 28; refine (isTime_any _ _).mono ?_; rintro e w' ⟨rfl, rfl⟩)
      go_ret2
      exact ⟨fin_two HF.out, by (repeat (first | (with_reducible exact (Below.refl _ _)) | (with_reducible apply bl_drewN) | (with_reducible apply bl_alloc) | ((with_reducible refine bl_set ?_ _ ?_); rotate_left; focus (first | exact Nat.le_refl _ | (simp; done) | (simp; omega)))))⟩
    | some k =>
      rw [hr] at hlk
      have hk := v2 k (ruleOf_mem hr).1
      obtain ⟨k1, k2, k3, k4⟩ := hk
      simp only [Option.map_some, Option.getD_some, Option.isSome_some, if_true, kInt, keepVal] at hlk
      by_cases hh : 0 < im.hold.length
      · have HF := Lib.hid (show untilV l im c = (0, 32) by unfold untilV; rw [if_neg (by simp [t1, t2]), hr]; simp only [untilK]; rw [if_pos hh])
        clear hr v2
        go_enter Try.func25, Try.ntmps25
        go_wp2_with (go_at_call 28; refine (isTime_any _ _).mono ?_; rintro e w' ⟨rfl, rfl⟩)
        go_ret2
        exact ⟨fin_two HF.out, by (repeat (first | (with_reducible exact (Below.refl _ _)) | (with_reducible apply bl_drewN) | (with_reducible apply bl_alloc) | ((with_reducible refine bl_set ?_ _ ?_); rotate_left; focus (first | exact Nat.le_refl _ | (simp; done) | (simp; omega)))))⟩
      · have HF := Lib.hid (show untilV l im c = (max (im.t + k.s) (c + k.l), 0) by unfold untilV; rw [if_neg (by simp [t1, t2]), hr]; simp only [untilK]; rw [if_neg hh, if_neg hc1])
        have hh0 : ¬ (0 : Int) < (im.hold.length : Int) := by omega
        clear hr v2
        go_enter Try.func25, Try.ntmps25
        go_wp2_with (go_at_call 28; refine (isTime_any _ _).mono ?_; rintro e w' ⟨rfl, rfl⟩)
        all_goals
          go_ret2
          refine ⟨fin_two (HF.out.trans ?_), ?_⟩
          · congr 1; omega
          · (repeat (first | (with_reducible exact (Below.refl _ _)) | (with_reducible apply bl_drewN) | (with_reducible apply bl_alloc) | ((with_reducible refine bl_set ?_ _ ?_); rotate_left; focus (first | exact Nat.le_refl _ | (simp; done) | (simp; omega)))))

theorem same_drew {B : Nat} {w w' : World} (h : Below B w.drew w') : SameOn (· < B) w w' := fun k hk => h.block k hk
theorem box_img {w w1 : World} {im : Img} {h : Value} {S : Nat → Prop} (hi : ImgOk S w im h) (hw : SameOn S w w1) : ImgOk S w1 im h := ⟨hi.id, hi.t, hi.p, hi.hold.keep (fun _ h => h) hw, hi.dg⟩

set_option maxRecDepth 100000 in
set_option maxHeartbeats 1000000 in
theorem Until_any (l : List Keep) (v : Value) (im : Img) (h : Value) (c : Int) (w : World) (hl : SlIs tKeep (· < w.heap.size) w v l) (hi : ImgOk (· < w.heap.size) w im h) (hc : i64ok c) :
    Calls Try.prog 10 #[v, .agg #[.string im.id, .int .i64 im.t, .int .i64 im.p, h, .int .u64 im.dg], .int .i64 c] w
      fun e w' => e = .returned (.tuple #[.int .i64 (untilC l im c).1, .int .i64 (untilC l im c).2]) ∧ Below w.heap.size w w' := by
  have hh : ∃ ao n cap, h = .slice ao n cap := by
    obtain ⟨ao, cap, _, _, e, _⟩ := hi.hold
    exact ⟨_, _, _, e⟩
  obtain ⟨ha, hn, hcp, rfl⟩ := hh
  let W1 := w.alloc (.cells #[.string im.id, .int .i64 im.t, .int .i64 im.p, .slice ha hn hcp, .int .u64 im.dg] 26)
  have b1 : Below w.heap.size w W1 := bl_alloc (Below.refl _ _) _
  by_cases hk : kchkAll l = 0
  case neg =>
    have hkn : (kchkAll l != 0) = true := by simpa using hk
    have HF := Lib.hid (show untilC l im c = (0, kchkAll l) by unfold untilC; rw [if_pos hk])
    clear hk
    go_enter Try.func10, Try.ntmps10
    go_wp2_with (go_at_call 12; refine (check_any l _ _ (hl.step b1)).mono ?_; rintro e w2 ⟨rfl, hb2⟩)
    go_ret2
    exact ⟨fin_two HF.out, bl_trans b1 ‹_›⟩
  have HF := Lib.hid (show untilC l im c = untilV l im c by unfold untilC; rw [if_neg (by simpa using hk)])
  have HK := Lib.hid hk
  clear hk
  go_enter Try.func10, Try.ntmps10
  go_wp2_with (fail)
  refine (check_any l _ _ (hl.step b1)).mono ?_
  rintro e w2 ⟨rfl, hb2⟩
  rw [HK.out]
  have b2 := bl_trans b1 hb2
  have hl2 := hl.step b2
  have hs1 : w.heap.size < W1.heap.size := by simp [W1]
  have hs2 : W1.heap.size ≤ w2.heap.size := hb2.size
  have hs3 : w.heap.size < w2.heap.size := by omega
  have hn2 := below_new hb2 hs1
  have hi2 : ImgOk (· < w.heap.size) w2 im (.slice ha hn hcp) := box_img hi (.of_below b2)
  obtain ⟨d0, d1, d2, d3, d4, -⟩ := blk5 hn2
  clear hl
  have hl3 : SlIs tKeep (· < w2.drew.heap.size) w2.drew v l := hl2
  have HN := Lib.hid hn2
  clear hn2 hl2
  have hc' := Lib.hid hc
  go_wp2_with (fail)
  go_region_with (first
    | (go_at_call 26
       (
         refine (rules_any l _ _ (by assumption)).mono ?_
         rintro e w3 ⟨rfl, hm3, hb3⟩
         have hi3 : ImgOk (· < w.heap.size) w3 im (.slice ha hn hcp) := box_img hi2 (same_drew (hb3.mono (Nat.le_of_lt hs3)))
         have hn3 := (hb3.block w.heap.size hs3).trans HN.out
         obtain ⟨f0, f1, f2, f3, f4, -⟩ := blk5 hn3
       ))
    | (go_at_call 25
       refine (until_any l im _ _ _ _ c _ ⟨HK.out, by assumption, by assumption⟩ hc).mono ?_
       rintro e w4 ⟨rfl, hb4⟩))
  all_goals
    have b4 : Below w.heap.size w _ := bl_trans (bl_trans b2.drew ‹Below w2.drew.heap.size _ _›) ‹_›
    go_wp2
    go_ret2
    exact ⟨fin_two HF.out, b4⟩
end Go.Proofs.Ytcociikmhfopnaa
