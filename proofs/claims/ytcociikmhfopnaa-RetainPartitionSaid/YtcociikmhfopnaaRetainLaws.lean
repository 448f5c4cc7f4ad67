/-
  Layer 40 (retain): the laws RetainUntils, RetainPurges, RetainHolds.
-/
import Derived.Test.YtcociikmhfopnaaRetainAwake
namespace Go.Proofs.Ytcociikmhfopnaa
open Go.RowKit Go.Tw Go.Tw.Retain Go.ChangeShapes Go.WideShapes

theorem own0 : ownKnob Try.prog.godebug = none := by kernel_rfl
theorem laid0 : laidOutB Try.prog = true := by kernel_rfl
theorem opensStrs (e' : TypeId) : Opens Try.prog 23 (tStr.list e') := opens_slice Try.underlying23 (by kernel_rfl) (by decide) (opens_str Try.underlying9)
theorem opensImg : Opens Try.prog 26 tImg :=
  opens_via (fun x => ⟨x.1, x.2.1, x.2.2.1, x.2.2.2.1, x.2.2.2.2⟩) (fun _ => rfl) (opens_struct Try.underlying26 (by kernel_rfl) (.cons rfl (by kernel_rfl) (opens_str Try.underlying9) (.cons rfl (by kernel_rfl) (opens_int Try.underlying3) (.cons rfl (by kernel_rfl) (opens_int Try.underlying3) (.cons rfl (by kernel_rfl) (opensStrs _) (.one rfl (by kernel_rfl) (opens_u64 Try.underlying24)))))))
theorem opensKeep : Opens Try.prog 57 tKeep :=
  opens_via (fun x => ⟨x.1, x.2.1, x.2.2⟩) (fun _ => rfl) (opens_struct Try.underlying57 (by kernel_rfl) (.cons rfl (by kernel_rfl) (opens_int Try.underlying3) (.cons rfl (by kernel_rfl) (opens_int Try.underlying3) (.one rfl (by kernel_rfl) (opens_int Try.underlying3)))))
theorem opensKeeps : Opens Try.prog 22 tKeep.list := opens_slice Try.underlying22 (by kernel_rfl) (by decide) opensKeep
theorem opensImgs : Opens Try.prog 36 tImg.list := opens_slice Try.underlying36 (by kernel_rfl) (by decide) opensImg
theorem opensInts : Opens Try.prog 37 tInt.list := opens_slice Try.underlying37 (by kernel_rfl) (by decide) (opens_int Try.underlying3)
def tStore : Ty (List Keep × List Img × List Int) := tKeep.list.pair (tImg.list.pair tInt.list)
theorem opensStore : Opens Try.prog 39 tStore :=
  opens_struct Try.underlying39 (by kernel_rfl) (.cons rfl (by kernel_rfl) opensKeeps (.cons rfl (by kernel_rfl) opensImgs (.one rfl (by kernel_rfl) opensInts)))
theorem arr_toList {cs : Array Value} {l : List Value} (h : cs.toList = l) : cs = l.toArray := by rw [← h]
theorem store_is {w : World} {cs : Array Value} {x : List Keep × List Img × List Int} (h : tStore.is (· < w.heap.size) w cs.toList x) : ∃ v vi vc, cs = #[v, vi, vc] ∧ PArgs x.1 x.2.1 x.2.2 v vi vc w := by
  obtain ⟨_, _, e, ⟨v, rfl, h1⟩, _, _, rfl, ⟨vi, rfl, h2⟩, ⟨vc, rfl, h3⟩⟩ := h
  exact ⟨v, vi, vc, arr_toList e, h1, h2, h3⟩

theorem untils_walk : LawWalk Try.prog 3 Try.f3 := by
  intro H enc W base args ds ps hval hA hsz
  rw [Try.params3] at hA hval
  obtain ⟨v0, v1, v2, d0, d1, d2, p0, p1, p2, rfl, rfl, rfl, h0, h1, h2⟩ := trodAll_three hA
  obtain ⟨l, hl⟩ := arg_slice Try.underlying22 opensKeeps (hval 0 _ _ rfl rfl) h0
  obtain ⟨cs, im, rfl, hi⟩ := arg_struct Try.underlying26 opensImg (hval 1 _ _ rfl rfl) h1
  obtain ⟨c, rfl, hc⟩ := arg_int Try.underlying3 (hval 2 _ _ rfl rfl) h2
  clear hA hval h0 h1 h2 hsz
  obtain ⟨hv, he, hok⟩ := tImg_is hi
  obtain rfl := arr_toList he
  obtain ⟨ao, cap, b, off, rfl, hlc, hm, -⟩ := keep_open hl
  obtain ⟨hva, hvc, _, _, rfl, -⟩ := hok.hold
  unfold maxLen at hm
  clear hi he
  have b0 : Below W.heap.size W (W.alloc (.cells #[.string im.id, .int .i64 im.t, .int .i64 im.p, .slice hva im.hold.length hvc, .int .u64 im.dg] 26)) := bl_alloc (Below.refl _ _) _
  unfold imgCells
  by_cases hg : 10 < l.length
  · have hg' : (10 : Int) < (l.length : Int) := by omega
    go_enter Try.func3, Try.ntmps3
    go_wp2_with (go_at_call 9; refine (awake_any _).mono ?_; rintro e w1 ⟨rfl, hb1⟩)
    go_ret
    exact ⟨rfl, bl_trans b0 hb1⟩
  have hg' : ¬ (10 : Int) < (l.length : Int) := by omega
  have hx := alloc1_0 W (.cells #[.string im.id, .int .i64 im.t, .int .i64 im.p, .slice hva im.hold.length hvc, .int .u64 im.dg] 26)
  have hok1 : ImgOk (· < W.heap.size) (W.alloc (.cells #[.string im.id, .int .i64 im.t, .int .i64 im.p, .slice hva im.hold.length hvc, .int .u64 im.dg] 26)) im (.slice hva im.hold.length hvc) := box_img hok (.of_below b0)
  have hl1 := hl.step b0
  go_enter Try.func3, Try.ntmps3
  go_wp2_with (fail)
  refine (Until_any l _ im _ c _ hl1 (imgOk_widen hok1 (fun k (h : k < W.heap.size) => Nat.lt_of_lt_of_le h b0.size)) hc).mono ?_
  rintro e w1 ⟨rfl, hb1⟩
  have b1 := bl_trans b0 hb1
  replace hl1 := hl1.step hb1
  replace hx := Below.at_old hb1 hx
  replace hok1 := box_img hok1 (.of_below (hb1.mono b0.size))
  obtain ⟨c0, c1, c2, c3, c4, cf⟩ := blk5 hx
  clear hb1
  go_wp2_with (fail)
  refine (UntilR_any l _ im _ c _ hl1 (imgOk_widen hok1 (fun k (h : k < W.heap.size) => Nat.lt_of_lt_of_le h b1.size)) hc).mono ?_
  rintro e w2 ⟨rfl, hb2⟩
  have b2 := bl_trans b1 hb2
  replace hl1 := hl1.step hb2
  clear hb2 c0 c1 c2 c3 c4 cf hx hok1 hok hl
  go_wp2_with (fail)
  refine (check_any l _ _ hl1).mono ?_
  rintro e w3 ⟨rfl, hb3⟩
  have b3 := bl_trans b2 hb3
  replace hl1 := hl1.step hb3
  clear hb3
  go_wp2_with (fail)
  refine (checkR_any l _ _ hl1).mono ?_
  rintro e w4 ⟨rfl, hb4⟩
  have b4 := bl_trans b3 hb4
  clear hl1 hb4 b0 b1 b2 b3
  go_wp2_with (fail)
  refine (awake_any _).mono ?_
  rintro e w5 ⟨rfl, hb5⟩
  go_wp2
  go_ret
  exact ⟨rfl, bl_trans b4 hb5⟩
set_option maxRecDepth 100000 in
theorem untils_lift (os : Os) (started : os.Started) (H : Type) (enc : TypeId × Value → H) :
    ReturnsInHanded {} Try.checked os 3 .any (Rows.retainUntilsSpec.pre6 enc Try.prog Try.f3 Rows.retainUntilsRow.domain false) (Rows.retainUntilsSpec.post enc Try.prog Try.f3 false true false false) :=
  law_lift (C := Try.checked) (s := Rows.retainUntilsSpec) (fn := Try.f3) ⟨rfl, fun H ds h => by
    match ds, h with
    | [a, b, c], _ => exact ⟨rfl, rfl, rfl⟩⟩ rfl Try.underlying4 (by kernel_rfl) laid0 own0 started (by kernel_rfl) Try.func3
    (ChangeSpec.witness6 (enc := enc) (C := Try.checked) false ⟨#[], #[.slice none 0 0, .agg #[.string ByteArray.empty, .int .i64 0, .int .i64 0, .slice none 0 0, .int .u64 0], .int .i64 0], []⟩ 8 (by kernel_rfl) (by kernel_rfl) (by kernel_rfl) (by kernel_rfl)) untils_walk

/-- THE STATEMENT: RetainUntils. -/
theorem untils_holds : Rows.RetainUntilsSaid :=
  OpenClaim.holds_of_wide 3 Try.f3 rfl rfl rfl rfl rfl rfl rfl ⟨rfl, rfl, rfl, rfl, rfl⟩ rfl rfl rfl rfl rfl (by kernel_rfl) Try.func3 (by kernel_rfl)
    (of_decide_eq_true (by kernel_rfl)) (by unfold Func.isWrapper; rw [if_neg (of_decide_eq_false (by kernel_rfl))]; exact ⟨rfl, rfl⟩)
    (fun os started H enc _ => untils_lift os started H enc)

/-- a law over a store, on its way -/
structure Way (W : World) (l : List Keep) (ims : List Img) (cs : List Int) (v vi vc : Value) (w : World) : Prop where
  args : PArgs l ims cs v vi vc w
  box : w.heap[W.heap.size]? = some (.cells #[v, vi, vc] 39 (0, 0))
  below : Below W.heap.size W w
theorem PArgs.step {l : List Keep} {ims : List Img} {cs : List Int} {v vi vc : Value} {w w' : World} (h : PArgs l ims cs v vi vc w) (hb : Below w.heap.size w w') : PArgs l ims cs v vi vc w' := ⟨h.rules.step hb, h.imgs.step hb, h.closed.step hb⟩
theorem Way.step {W : World} {l : List Keep} {ims : List Img} {cs : List Int} {v vi vc : Value} {w w' : World} (h : Way W l ims cs v vi vc w) (hb : Below w.heap.size w w') : Way W l ims cs v vi vc w' := ⟨h.args.step hb, Below.at_old hb h.box, bl_trans h.below hb⟩
theorem Way.start {W : World} {l : List Keep} {ims : List Img} {cs : List Int} {v vi vc : Value} (h : PArgs l ims cs v vi vc W) : Way W l ims cs v vi vc (W.alloc (.cells #[v, vi, vc] 39)) := ⟨h.step (bl_alloc (Below.refl _ _) _), alloc1_0 _ _, bl_alloc (Below.refl _ _) _⟩
theorem widen_img {S : Nat → Prop} {w : World} {v : Value} {ims : List Img} (h : SlIs tImg S w v ims) (hs : ∀ k, S k → k < w.heap.size) : SlIs tImg (· < w.heap.size) w v ims := h.keep hs (SameOn.refl _ _)
theorem newer {α : Type} {W w : World} {T : Ty α} {v : Value} {l : List α} (h : SlIs T (fun k => W.heap.size ≤ k ∧ k < w.heap.size) w v l) : SlIs T (· < w.heap.size) w v l := h.keep (fun _ hk => hk.2) (SameOn.refl _ _)


theorem purges_walk : LawWalk Try.prog 4 Try.f4 := by
  intro H enc W base args ds ps hval hA hsz
  rw [Try.params4] at hA hval
  obtain ⟨v0, v1, d0, d1, p0, p1, rfl, rfl, rfl, h0, h1⟩ := trodAll_two hA
  obtain ⟨cs, ⟨l, ims, cl⟩, rfl, hi⟩ := arg_struct Try.underlying39 opensStore (hval 0 _ _ rfl rfl) h0
  obtain ⟨v, vi, vc, rfl, hp⟩ := store_is hi
  have hw := Way.start hp
  have HP := Lib.hid hp
  clear hi hp
  obtain ⟨t, rfl, ht⟩ := arg_int Try.underlying3 (hval 1 _ _ rfl rfl) h1
  clear hA hval h0 h1 hsz
  go_enter Try.func4, Try.ntmps4
  go_wp2_with (fail)
  refine (great_any l ims cl v vi vc _ hw.args).mono ?_
  rintro e w1 ⟨hb, rfl | ⟨rfl, hs⟩⟩
  · have b1 := (hw.step hb).below
    clear hw hb
    go_wp2_with (go_at_call 9; refine (awake_any _).mono ?_; rintro e w2 ⟨rfl, hb2⟩)
    go_ret
    exact ⟨rfl, bl_trans b1 hb2⟩
  obtain ⟨hs1, hs2, hs3, hs4⟩ := hs
  have hbig : ims.length ≤ 1000000 := by omega
  have hH : ∀ im ∈ ims, im.hold.length ≤ 1000000 := fun im h => by have := hs4 im h; omega
  have HH := Lib.hid hH
  clear hs1 hs2 hs3 hs4 hH
  replace hw := hw.step hb
  clear hb
  obtain ⟨c0, c1, c2, cf⟩ := blk3 hw.box
  have hWs : W.heap.size < w1.heap.size := lt_of_heap hw.box
  go_wp2_with (fail)
  refine (Purge_any l ims cl v vi vc t _ hw.args hbig HH.out).mono ?_
  rintro e w2 ⟨va, vb, rfl, ha, hb1, hb⟩
  have hA := newer ha
  have hB := newer hb1
  replace hw := hw.step hb
  clear hb ha hb1
  clear c0 c1 c2 cf hWs
  obtain ⟨c0, c1, c2, cf⟩ := blk3 hw.box
  have hWs : W.heap.size < w2.heap.size := lt_of_heap hw.box
  go_wp2_with (fail)
  refine (PurgeR_any l ims cl v vi vc t _ hw.args hbig HH.out).mono ?_
  rintro e w3 ⟨vc1, vd, rfl, hc1, hd1, hb⟩
  have hC := newer hc1
  have hD := newer hd1
  replace hA := hA.step hb
  replace hB := hB.step hb
  replace hw := hw.step hb
  clear hb hc1 hd1
  clear c0 c1 c2 cf hWs
  obtain ⟨c0, c1, c2, cf⟩ := blk3 hw.box
  have hWs : W.heap.size < w3.heap.size := lt_of_heap hw.box
  go_wp2_with (fail)
  refine (Next_any l ims cl v vi vc t _ hw.args).mono ?_
  rintro e w4 ⟨rfl, hb⟩
  replace hA := hA.step hb
  replace hB := hB.step hb
  replace hC := hC.step hb
  replace hD := hD.step hb
  replace hw := hw.step hb
  clear hb
  clear c0 c1 c2 cf hWs
  obtain ⟨c0, c1, c2, cf⟩ := blk3 hw.box
  have hWs : W.heap.size < w4.heap.size := lt_of_heap hw.box
  go_wp2_with (fail)
  refine (NextR_any l ims cl v vi vc t _ hw.args).mono ?_
  rintro e w5 ⟨rfl, hb⟩
  replace hA := hA.step hb
  replace hB := hB.step hb
  replace hC := hC.step hb
  replace hD := hD.step hb
  have b5 := (hw.step hb).below
  clear c0 c1 c2 cf hWs
  clear hb hw
  go_wp2_with (fail)
  refine (Same_any _ _ _ _ hA hC).mono ?_
  rintro e w6 ⟨rfl, hb⟩
  replace hB := hB.step hb
  replace hD := hD.step hb
  replace b5 := bl_trans b5 hb
  clear hb hA hC
  go_wp2_with (fail)
  refine (sameTexts_any _ _ _ _ hB hD).mono ?_
  rintro e w7 ⟨rfl, hb⟩
  replace b5 := bl_trans b5 hb
  clear hb hB hD
  go_wp2_with (fail)
  refine (awake_any _).mono ?_
  rintro e w8 ⟨rfl, hb⟩
  go_wp2
  go_ret
  exact ⟨rfl, bl_trans b5 hb⟩
set_option maxRecDepth 100000 in
theorem purges_lift (os : Os) (started : os.Started) (H : Type) (enc : TypeId × Value → H) :
    ReturnsInHanded {} Try.checked os 4 .any (Rows.retainPurgesSpec.pre6 enc Try.prog Try.f4 Rows.retainPurgesRow.domain false) (Rows.retainPurgesSpec.post enc Try.prog Try.f4 false true false false) :=
  law_lift (C := Try.checked) (s := Rows.retainPurgesSpec) (fn := Try.f4) ⟨rfl, fun H ds h => by
    match ds, h with
    | [a, b], _ => exact ⟨rfl, rfl, rfl⟩⟩ rfl Try.underlying4 (by kernel_rfl) laid0 own0 started (by kernel_rfl) Try.func4
    (ChangeSpec.witness6 (enc := enc) (C := Try.checked) false ⟨#[], #[.agg #[.slice none 0 0, .slice none 0 0, .slice none 0 0], .int .i64 0], []⟩ 8 (by kernel_rfl) (by kernel_rfl) (by kernel_rfl) (by kernel_rfl)) purges_walk

/-- THE STATEMENT: RetainPurges. -/
theorem purges_holds : Rows.RetainPurgesSaid :=
  OpenClaim.holds_of_wide 4 Try.f4 rfl rfl rfl rfl rfl rfl rfl ⟨rfl, rfl, rfl, rfl, rfl⟩ rfl rfl rfl rfl rfl (by kernel_rfl) Try.func4 (by kernel_rfl)
    (of_decide_eq_true (by kernel_rfl)) (by unfold Func.isWrapper; rw [if_neg (of_decide_eq_false (by kernel_rfl))]; exact ⟨rfl, rfl⟩)
    (fun os started H enc _ => purges_lift os started H enc)

theorem holds_walk : LawWalk Try.prog 7 Try.f7 := by
  intro H enc W base args ds ps hval hA hsz
  rw [Try.params7] at hA hval
  obtain ⟨v0, v1, v2, d0, d1, d2, p0, p1, p2, rfl, rfl, rfl, h0, h1, h2⟩ := trodAll_three hA
  obtain ⟨cs, ⟨l, ims, cl⟩, rfl, hi⟩ := arg_struct Try.underlying39 opensStore (hval 0 _ _ rfl rfl) h0
  obtain ⟨v, vi, vc, rfl, hp⟩ := store_is hi
  have hw := Way.start hp
  have HP := Lib.hid hp
  clear hi hp
  obtain ⟨id, rfl, hid⟩ := arg_str Try.underlying9 (hval 1 _ _ rfl rfl) h1
  obtain ⟨rs, rfl, hrs⟩ := arg_str Try.underlying9 (hval 2 _ _ rfl rfl) h2
  clear hA hval h0 h1 h2 hsz
  have HR := Lib.hid hrs
  clear hid hrs
  go_enter Try.func7, Try.ntmps7
  go_wp2_with (fail)
  refine (great_any l ims cl v vi vc _ hw.args).mono ?_
  rintro e w1 ⟨hb, rfl | ⟨rfl, hs⟩⟩
  · have b1 := (hw.step hb).below
    clear hw hb
    go_wp2_with (go_at_call 9; refine (awake_any _).mono ?_; rintro e w2 ⟨rfl, hb2⟩)
    go_ret
    exact ⟨rfl, bl_trans b1 hb2⟩
  obtain ⟨hs1, hs2, hs3, hs4⟩ := hs
  have hbig : ims.length ≤ 1000000 := by omega
  have hH : ∀ im ∈ ims, im.hold.length ≤ 1000000 := fun im h => by have := hs4 im h; omega
  have HH := Lib.hid hH
  clear hs1 hs2 hs3 hs4 hH
  replace hw := hw.step hb
  clear hb
  obtain ⟨c0, c1, c2, cf⟩ := blk3 hw.box
  have hWs : W.heap.size < w1.heap.size := lt_of_heap hw.box
  go_wp2_with (fail)
  refine (Hold_any ims vi id rs _ hw.args.imgs hbig HH.out HR.out).mono ?_
  rintro e w2 ⟨va, rfl, hA, hb⟩
  replace hw := hw.step hb
  clear hb
  clear c0 c1 c2 cf hWs
  obtain ⟨c0, c1, c2, cf⟩ := blk3 hw.box
  have hWs : W.heap.size < w2.heap.size := lt_of_heap hw.box
  go_wp2_with (fail)
  refine (HoldR_any ims vi id rs _ hw.args.imgs hbig HH.out HR.out).mono ?_
  rintro e w3 ⟨vb, rfl, hB, hb⟩
  replace hA := hA.step hb
  replace hw := hw.step hb
  clear hb
  clear c0 c1 c2 cf hWs
  obtain ⟨c0, c1, c2, cf⟩ := blk3 hw.box
  have hWs : W.heap.size < w3.heap.size := lt_of_heap hw.box
  go_wp2_with (fail)
  refine (Release_any ims vi id rs _ hw.args.imgs hbig HH.out).mono ?_
  rintro e w4 ⟨vc1, rfl, hC, hb⟩
  replace hA := hA.step hb
  replace hB := hB.step hb
  replace hw := hw.step hb
  clear hb
  clear c0 c1 c2 cf hWs
  obtain ⟨c0, c1, c2, cf⟩ := blk3 hw.box
  have hWs : W.heap.size < w4.heap.size := lt_of_heap hw.box
  go_wp2_with (fail)
  refine (ReleaseR_any ims vi id rs _ hw.args.imgs hbig HH.out).mono ?_
  rintro e w5 ⟨vd, rfl, hD, hb⟩
  replace hA := hA.step hb
  replace hB := hB.step hb
  replace hC := hC.step hb
  have b5 := (hw.step hb).below
  clear c0 c1 c2 cf hWs
  clear hb hw
  go_wp2_with (fail)
  refine (Same_any _ _ _ _ hA hB).mono ?_
  rintro e w6 ⟨rfl, hb⟩
  replace hC := hC.step hb
  replace hD := hD.step hb
  replace b5 := bl_trans b5 hb
  clear hb hA hB
  go_wp2_with (fail)
  refine (Same_any _ _ _ _ hC hD).mono ?_
  rintro e w7 ⟨rfl, hb⟩
  replace b5 := bl_trans b5 hb
  clear hb hC hD
  go_wp2_with (fail)
  refine (awake_any _).mono ?_
  rintro e w8 ⟨rfl, hb⟩
  go_wp2
  go_ret
  exact ⟨rfl, bl_trans b5 hb⟩
set_option maxRecDepth 100000 in
theorem holds_lift (os : Os) (started : os.Started) (H : Type) (enc : TypeId × Value → H) :
    ReturnsInHanded {} Try.checked os 7 .any (Rows.retainHoldsSpec.pre6 enc Try.prog Try.f7 Rows.retainHoldsRow.domain false) (Rows.retainHoldsSpec.post enc Try.prog Try.f7 false true false false) :=
  law_lift (C := Try.checked) (s := Rows.retainHoldsSpec) (fn := Try.f7) ⟨rfl, fun H ds h => by
    match ds, h with
    | [a, b, c], _ => exact ⟨rfl, rfl, rfl⟩⟩ rfl Try.underlying4 (by kernel_rfl) laid0 own0 started (by kernel_rfl) Try.func7
    (ChangeSpec.witness6 (enc := enc) (C := Try.checked) false ⟨#[], #[.agg #[.slice none 0 0, .slice none 0 0, .slice none 0 0], .string ByteArray.empty, .string ByteArray.empty], []⟩ 8 (by kernel_rfl) (by kernel_rfl) (by kernel_rfl) (by kernel_rfl)) holds_walk

/-- THE STATEMENT: RetainHolds. -/
theorem holds_holds : Rows.RetainHoldsSaid :=
  OpenClaim.holds_of_wide 7 Try.f7 rfl rfl rfl rfl rfl rfl rfl ⟨rfl, rfl, rfl, rfl, rfl⟩ rfl rfl rfl rfl rfl (by kernel_rfl) Try.func7 (by kernel_rfl)
    (of_decide_eq_true (by kernel_rfl)) (by unfold Func.isWrapper; rw [if_neg (of_decide_eq_false (by kernel_rfl))]; exact ⟨rfl, rfl⟩)
    (fun os started H enc _ => holds_lift os started H enc)
end Go.Proofs.Ytcociikmhfopnaa
