/-
  Layer 40 (retain): the law RetainNexts.
-/
import Derived.Test.YtcociikmhfopnaaRetainLaws
import Derived.Test.YtcociikmhfopnaaRetainMore
namespace Go.Proofs.Ytcociikmhfopnaa
open Go.RowKit Go.Tw Go.Tw.Retain Go.ChangeShapes Go.WideShapes

set_option maxRecDepth 100000 in
set_option maxHeartbeats 2000000 in
theorem nexts_walk : LawWalk Try.prog 6 Try.f6 := by
  intro H enc W base args ds ps hval hA hsz
  rw [Try.params6] at hA hval
  obtain ⟨v0, v1, v2, d0, d1, d2, p0, p1, p2, rfl, rfl, rfl, h0, h1, h2⟩ := trodAll_three hA
  obtain ⟨cs, ⟨l, ims, cl⟩, rfl, hi⟩ := arg_struct Try.underlying39 opensStore (hval 0 _ _ rfl rfl) h0
  obtain ⟨v, vi, vc, rfl, hp⟩ := store_is hi
  have hw := Way.start hp
  have HP := Lib.hid hp
  clear hi hp
  obtain ⟨t, rfl, ht⟩ := arg_int Try.underlying3 (hval 1 _ _ rfl rfl) h1
  obtain ⟨x, rfl, hx⟩ := arg_int Try.underlying3 (hval 2 _ _ rfl rfl) h2
  clear hA hval h0 h1 h2 hsz ht hx
  go_enter Try.func6, Try.ntmps6
  go_wp2_with (fail)
  refine (great_any l ims cl v vi vc _ hw.args).mono ?_
  rintro e w1 ⟨hb, rfl | ⟨rfl, hs⟩⟩
  · have b1 := (hw.step hb).below
    clear hw hb
    go_wp2_with (go_at_call 9; refine (awake_any _).mono ?_; rintro e w2 ⟨rfl, hb2⟩)
    go_ret
    exact ⟨rfl, bl_trans b1 hb2⟩
  obtain ⟨hs1, hs2, hs3, hs4⟩ := hs
  have hbig : ims.length ≤ 1000000 := by omega
  have hH : ∀ im ∈ ims, im.hold.length ≤ 1000000 := fun im h => by have := hs4 im h; omega
  have HH := Lib.hid hH
  clear hs1 hs2 hs3 hs4 hH
  replace hw := hw.step hb
  clear hb
  obtain ⟨c0, c1, c2, cf⟩ := blk3 hw.box
  have hWs : W.heap.size < w1.heap.size := lt_of_heap hw.box
  rcases purge_cases l ims cl t with ⟨e0, he0, hp⟩ | ⟨ok, hT⟩
  · have HE := Lib.hid hp
    have hne : (e0 != 0) = true := by simpa using he0
    clear hp he0
    go_wp2_with (fail)
    refine (Purge_any l ims cl v vi vc t _ hw.args hbig HH.out).mono ?_
    rintro e w2 ⟨va, vb, rfl, -, -, hb⟩
    rw [HE.out]
    have b2 := (hw.step hb).below
    clear c0 c1 c2 cf hWs
    clear hw hb
    go_wp2_with (fail)
    refine (awake_any _).mono ?_
    rintro e w3 ⟨rfl, hb⟩
    go_wp2
    go_ret
    exact ⟨rfl, bl_trans b2 hb⟩
  have HE := Lib.hid (ok.res hT)
  have OK := Lib.hid ok
  have HT := Lib.hid hT
  have HN := Lib.hid (ok.next t)
  clear ok hT
  go_wp2_with (fail)
  refine (Purge_any l ims cl v vi vc t _ hw.args hbig HH.out).mono ?_
  rintro e w2 ⟨va, vb, rfl, -, hb1, hb⟩
  rw [HE.out] at hb1
  rw [HE.out]
  have hB := newer hb1
  replace hw := hw.step hb
  clear hb hb1
  clear c0 c1 c2 cf hWs
  obtain ⟨c0, c1, c2, cf⟩ := blk3 hw.box
  have hWs : W.heap.size < w2.heap.size := lt_of_heap hw.box
  obtain ⟨hs1, hs2⟩ := nextGo_spec (l := l) (t := t) (ims := ims) (cs := cl) (le := 0) (ok := false)
  rw [← HN.out] at hs1 hs2
  have isT_of : ∀ y, t ≤ y → y < 68719476736 → isT y = true := fun y h1 h2 => by
    have := HT.out
    simp only [isT, Bool.and_eq_true, decide_eq_true_eq] at this ⊢
    omega
  have IT := Lib.hid isT_of; clear isT_of
  rcases Bool.eq_false_or_eq_true (nextC l ims cl t).2 with hok | hok
  · obtain ⟨g1, -, g3⟩ := hs2 hok
    have g1' : ∃ p ∈ ims.zip cl, dueP l t p ∧ (untilV l p.1 p.2).1 = (nextC l ims cl t).1 := by
      rcases g1 with ⟨q, _⟩ | g1
      · cases q
      · exact g1
    have HOK := Lib.hid hok
    clear hs1 hs2 g1 hok
    go_wp2_with (fail)
    refine (Next_any l ims cl v vi vc t _ hw.args).mono ?_
    rintro e w3 ⟨rfl, hb⟩
    rw [HOK.out]
    generalize (nextC l ims cl t).1 = n at g1' g3
    obtain ⟨hlt, hmore⟩ := more_at g1'
    have HMM := Lib.hid hmore
    have G3 := Lib.hid g3
    replace hw := hw.step hb
    replace hB := hB.step hb
    clear hb g1' g3 hmore
    clear c0 c1 c2 cf hWs
    have hxd : (t ≤ x ∧ x < 68719476736 ∧ x < n) ∨ ¬ (t ≤ x ∧ x < 68719476736 ∧ x < n) := Decidable.em _
    have hnd : n < 68719476736 ∨ ¬ n < 68719476736 := Decidable.em _
    rcases hxd with ⟨x1, x2, x3⟩ | hxn
    · have HX := Lib.hid (show purgeC l ims cl x = (keptOf l x (ims.zip cl), goneOf l t (ims.zip cl), 0) by rw [OK.out.res (IT.out x x1 x2), same_between x1 (fun p hp hd => by have := G3.out p hp hd; omega)])
      have hx1 : decide (t ≤ x) = true := by simpa using x1
      have hx2 : decide (x < 68719476736) = true := by simpa using x2
      have hx3 : decide (x < n) = true := by simpa using x3
      rcases hnd with n1 | n1
      · have HM := Lib.hid (And.intro (OK.out.res (IT.out n (by omega) n1)) HMM.out)
        have hn1 : decide (n < 68719476736) = true := by simpa using n1
        obtain ⟨c0, c1, c2, cf⟩ := blk3 hw.box
        have hWs : W.heap.size < w3.heap.size := lt_of_heap hw.box
        go_wp2_with (fail)
        refine (Purge_any l ims cl v vi vc x _ hw.args hbig HH.out).mono ?_
        rintro e w4 ⟨vc1, vd, rfl, -, hd, hb⟩
        rw [HX.out] at hd
        rw [HX.out]
        replace hB := hB.step hb
        replace hw := hw.step hb
        have hD := newer hd
        clear hb hd
        clear c0 c1 c2 cf hWs
        go_wp2_with (fail)
        refine (sameTexts_any _ _ _ _ hB hD).mono ?_
        rintro e w5 ⟨rfl, hb⟩
        replace hB := hB.step hb
        replace hw := hw.step hb
        clear hb hD
        obtain ⟨c0, c1, c2, cf⟩ := blk3 hw.box
        have hWs : W.heap.size < w5.heap.size := lt_of_heap hw.box
        obtain ⟨aob, capb, bb, offb, rfl, hlb, hmb, -⟩ := strs_open hB
        unfold maxLen at hmb
        go_wp2_with (fail)
        refine (Purge_any l ims cl v vi vc n _ hw.args hbig HH.out).mono ?_
        rintro e w6 ⟨ve, vf, rfl, -, hf, hb⟩
        rw [HM.out.1] at hf
        rw [HM.out.1]
        obtain ⟨aof, capf, bf, offf, rfl, hlf, hmf, -⟩ := strs_open hf
        unfold maxLen at hmf
        have hb6 := (hw.step hb).below
        have hle : ¬ (((goneOf l n (ims.zip cl)).length : Int) ≤ ((goneOf l t (ims.zip cl)).length : Int)) := by have := HM.out.2; omega
        have hld : decide (((goneOf l n (ims.zip cl)).length : Int) ≤ ((goneOf l t (ims.zip cl)).length : Int)) = false := by simpa using hle
        clear hb hf hw hB
        clear c0 c1 c2 cf hWs
        go_wp2_with (fail)
        refine (awake_any _).mono ?_
        rintro e w7 ⟨rfl, hb⟩
        go_wp2
        go_ret
        exact ⟨rfl, bl_trans hb6 hb⟩
      · have hn1 : decide (n < 68719476736) = false := by simpa using n1
        obtain ⟨c0, c1, c2, cf⟩ := blk3 hw.box
        have hWs : W.heap.size < w3.heap.size := lt_of_heap hw.box
        go_wp2_with (fail)
        refine (Purge_any l ims cl v vi vc x _ hw.args hbig HH.out).mono ?_
        rintro e w4 ⟨vc1, vd, rfl, -, hd, hb⟩
        rw [HX.out] at hd
        rw [HX.out]
        replace hB := hB.step hb
        replace hw := hw.step hb
        have hD := newer hd
        clear hb hd
        clear c0 c1 c2 cf hWs
        go_wp2_with (fail)
        refine (sameTexts_any _ _ _ _ hB hD).mono ?_
        rintro e w5 ⟨rfl, hb⟩
        replace hB := hB.step hb
        replace hw := hw.step hb
        clear hb hD
        have hb6 := hw.below
        clear hw hB
        go_wp2_with (fail)
        refine (awake_any _).mono ?_
        rintro e w7 ⟨rfl, hb⟩
        go_wp2
        go_ret
        exact ⟨rfl, bl_trans hb6 hb⟩
    · have hcase : (x < t) ∨ (t ≤ x ∧ 68719476736 ≤ x) ∨ (t ≤ x ∧ x < 68719476736 ∧ n ≤ x) := by omega
      clear hxn
      rcases hcase with x1 | ⟨x1, x2⟩ | ⟨x1, x2, x3⟩
      case inr.inr =>
        have n1 : n < 68719476736 := by omega
        have HM := Lib.hid (And.intro (OK.out.res (IT.out n (by omega) n1)) HMM.out)
        have hn1 : decide (n < 68719476736) = true := by simpa using n1
        obtain ⟨w5, hw5⟩ : ∃ w5, w5 = w3 := ⟨_, rfl⟩
        subst hw5
        obtain ⟨c0, c1, c2, cf⟩ := blk3 hw.box
        have hWs : W.heap.size < w5.heap.size := lt_of_heap hw.box
        obtain ⟨aob, capb, bb, offb, rfl, hlb, hmb, -⟩ := strs_open hB
        unfold maxLen at hmb
        go_wp2_with (fail)
        refine (Purge_any l ims cl v vi vc n _ hw.args hbig HH.out).mono ?_
        rintro e w6 ⟨ve, vf, rfl, -, hf, hb⟩
        rw [HM.out.1] at hf
        rw [HM.out.1]
        obtain ⟨aof, capf, bf, offf, rfl, hlf, hmf, -⟩ := strs_open hf
        unfold maxLen at hmf
        have hb6 := (hw.step hb).below
        have hle : ¬ (((goneOf l n (ims.zip cl)).length : Int) ≤ ((goneOf l t (ims.zip cl)).length : Int)) := by have := HM.out.2; omega
        have hld : decide (((goneOf l n (ims.zip cl)).length : Int) ≤ ((goneOf l t (ims.zip cl)).length : Int)) = false := by simpa using hle
        clear hb hf hw hB
        clear c0 c1 c2 cf hWs
        go_wp2_with (fail)
        refine (awake_any _).mono ?_
        rintro e w7 ⟨rfl, hb⟩
        go_wp2
        go_ret
        exact ⟨rfl, bl_trans hb6 hb⟩
      all_goals
        rcases hnd with n1 | n1
        · have HM := Lib.hid (And.intro (OK.out.res (IT.out n (by omega) n1)) HMM.out)
          have hn1 : decide (n < 68719476736) = true := by simpa using n1
          obtain ⟨w5, hw5⟩ : ∃ w5, w5 = w3 := ⟨_, rfl⟩
          subst hw5
          obtain ⟨c0, c1, c2, cf⟩ := blk3 hw.box
          have hWs : W.heap.size < w5.heap.size := lt_of_heap hw.box
          obtain ⟨aob, capb, bb, offb, rfl, hlb, hmb, -⟩ := strs_open hB
          unfold maxLen at hmb
          go_wp2_with (fail)
          refine (Purge_any l ims cl v vi vc n _ hw.args hbig HH.out).mono ?_
          rintro e w6 ⟨ve, vf, rfl, -, hf, hb⟩
          rw [HM.out.1] at hf
          rw [HM.out.1]
          obtain ⟨aof, capf, bf, offf, rfl, hlf, hmf, -⟩ := strs_open hf
          unfold maxLen at hmf
          have hb6 := (hw.step hb).below
          have hle : ¬ (((goneOf l n (ims.zip cl)).length : Int) ≤ ((goneOf l t (ims.zip cl)).length : Int)) := by have := HM.out.2; omega
          have hld : decide (((goneOf l n (ims.zip cl)).length : Int) ≤ ((goneOf l t (ims.zip cl)).length : Int)) = false := by simpa using hle
          clear hb hf hw hB
          clear c0 c1 c2 cf hWs
          go_wp2_with (fail)
          refine (awake_any _).mono ?_
          rintro e w7 ⟨rfl, hb⟩
          go_wp2
          go_ret
          exact ⟨rfl, bl_trans hb6 hb⟩
        · have hn1 : decide (n < 68719476736) = false := by simpa using n1
          obtain ⟨w5, hw5⟩ : ∃ w5, w5 = w3 := ⟨_, rfl⟩
          subst hw5
          have hb6 := hw.below
          clear hw hB
          go_wp2_with (fail)
          refine (awake_any _).mono ?_
          rintro e w7 ⟨rfl, hb⟩
          go_wp2
          go_ret
          exact ⟨rfl, bl_trans hb6 hb⟩
  · obtain ⟨-, g3⟩ := hs1 hok
    have HOK := Lib.hid hok
    have G3 := Lib.hid g3
    clear hs1 hs2 hok g3
    go_wp2_with (fail)
    refine (Next_any l ims cl v vi vc t _ hw.args).mono ?_
    rintro e w3 ⟨rfl, hb⟩
    rw [HOK.out]
    generalize (nextC l ims cl t).1 = n
    replace hw := hw.step hb
    replace hB := hB.step hb
    clear hb
    clear c0 c1 c2 cf hWs
    have hxd : (t ≤ x ∧ x < 68719476736) ∨ (x < t) ∨ (t ≤ x ∧ 68719476736 ≤ x) := by omega
    rcases hxd with ⟨x1, x2⟩ | hxd
    · have HX := Lib.hid (show purgeC l ims cl x = (keptOf l x (ims.zip cl), goneOf l t (ims.zip cl), 0) by rw [OK.out.res (IT.out x x1 x2), same_between x1 (fun p hp hd => absurd hd (G3.out p hp))])
      obtain ⟨c0, c1, c2, cf⟩ := blk3 hw.box
      have hWs : W.heap.size < w3.heap.size := lt_of_heap hw.box
      go_wp2_with (fail)
      refine (Purge_any l ims cl v vi vc x _ hw.args hbig HH.out).mono ?_
      rintro e w4 ⟨vc1, vd, rfl, -, hd, hb⟩
      rw [HX.out] at hd
      rw [HX.out]
      replace hB := hB.step hb
      replace hw := hw.step hb
      have hD := newer hd
      clear hb hd
      clear c0 c1 c2 cf hWs
      go_wp2_with (fail)
      refine (sameTexts_any _ _ _ _ hB hD).mono ?_
      rintro e w5 ⟨rfl, hb⟩
      replace hB := hB.step hb
      replace hw := hw.step hb
      clear hb hD
      have hb6 := hw.below
      clear hw hB
      go_wp2_with (fail)
      refine (awake_any _).mono ?_
      rintro e w7 ⟨rfl, hb⟩
      go_wp2
      go_ret
      exact ⟨rfl, bl_trans hb6 hb⟩
    · rcases hxd with x1 | ⟨x1, x2⟩
      all_goals
        obtain ⟨w5, hw5⟩ : ∃ w5, w5 = w3 := ⟨_, rfl⟩
        subst hw5
        have hb6 := hw.below
        clear hw hB
        go_wp2_with (fail)
        refine (awake_any _).mono ?_
        rintro e w7 ⟨rfl, hb⟩
        go_wp2
        go_ret
        exact ⟨rfl, bl_trans hb6 hb⟩
set_option maxRecDepth 100000 in
theorem nexts_lift (os : Os) (started : os.Started) (H : Type) (enc : TypeId × Value → H) :
    ReturnsInHanded {} Try.checked os 6 .any (Rows.retainNextsSpec.pre6 enc Try.prog Try.f6 Rows.retainNextsRow.domain false) (Rows.retainNextsSpec.post enc Try.prog Try.f6 false true false false) :=
  law_lift (C := Try.checked) (s := Rows.retainNextsSpec) (fn := Try.f6) ⟨rfl, fun H ds h => by
    match ds, h with
    | [a, b, c], _ => exact ⟨rfl, rfl, rfl⟩⟩ rfl Try.underlying4 (by kernel_rfl) laid0 own0 started (by kernel_rfl) Try.func6
    (ChangeSpec.witness6 (enc := enc) (C := Try.checked) false ⟨#[], #[.agg #[.slice none 0 0, .slice none 0 0, .slice none 0 0], .int .i64 0, .int .i64 0], []⟩ 8 (by kernel_rfl) (by kernel_rfl) (by kernel_rfl) (by kernel_rfl)) nexts_walk

/-- THE STATEMENT: RetainNexts. -/
theorem nexts_holds : Rows.RetainNextsSaid :=
  OpenClaim.holds_of_wide 6 Try.f6 rfl rfl rfl rfl rfl rfl rfl ⟨rfl, rfl, rfl, rfl, rfl⟩ rfl rfl rfl rfl rfl (by kernel_rfl) Try.func6 (by kernel_rfl)
    (of_decide_eq_true (by kernel_rfl)) (by unfold Func.isWrapper; rw [if_neg (of_decide_eq_false (by kernel_rfl))]; exact ⟨rfl, rfl⟩)
    (fun os started H enc _ => nexts_lift os started H enc)
end Go.Proofs.Ytcociikmhfopnaa
