/-
  Layer 37 (post): the laws' charge, awake.
-/
import Derived.Test.YtifcelebfagjbaaGreatDoorMgR
import Derived.Test.YtifcelebfagjbaaGreatDoorMgV
import Derived.Test.YtifcelebfagjbaaGreatDoorMgD
import Derived.Test.YtifcelebfagjbaaGreatDoorShelf
import Derived.Test.YtifcelebfagjbaaGreatDoorMgA
import Derived.Test.YtifcelebfagjbaaGreatDoorRows
import Derived.Test.YtifcelebfagjbaaGreatDoorCards
import Derived.Test.YtifcelebfagjbaaGreatDoorTie
import Derived.SevenTiedAt
import Derived.Stop.LaidErr
namespace Go.Proofs.YtifcelebfagjbaaGreatDoor
open Go.RowKit Go.Tw Go.Tw.Ord Go.Tw.Po Go.Sort
/-- a configuration of nothing but accounts -/
def zCfg (va : Value) : Array Value := #[.slice none 0 0, .slice none 0 0, .slice none 0 0, .slice none 0 0, .slice none 0 0, .slice none 0 0, .int .i64 0, .int .i64 0, .slice none 0 0, .int .i64 0, .slice none 0 0, .slice none 0 0, .slice none 0 0, .slice none 0 0, .slice none 0 0, .slice none 0 0, .slice none 0 0, va, .slice none 0 0, .slice none 0 0, .slice none 0 0, .slice none 0 0, .int .i64 0, .slice none 0 0, .string ⟨#[]⟩]
theorem zCfgA (va : Value) : CfgA (zCfg va) va := ⟨rfl, rfl⟩
/-- the example's charge -/
def agX (vx : Value) : Value := .agg #[.string ⟨#[116, 58, 99, 49, 46, 53]⟩, .string ⟨#[65, 66, 49, 50]⟩, .string ⟨#[109]⟩, .int .i64 1, .int .i64 100, vx, .int .i64 400]
theorem cokX : COk cX := ⟨by decide, by decide, by decide, by decide⟩
theorem chgX : ChgOk cX := ⟨by decide, by decide, by decide, by unfold i64ok; decide, by unfold i64ok; decide, by unfold i64ok; decide⟩
/-- one row of a text and a number -/
theorem oneSI {W : World} {s : ByteArray} {n : Int} {t : TypeId} (h : SIOk ⟨s, n⟩) : SlIs tSI (fun k => W.heap.size ≤ k ∧ k < (W.alloc (.cells #[.string s, .int .i64 n] t)).heap.size) (W.alloc (.cells #[.string s, .int .i64 n] t)) (.slice (some ⟨W.heap.size, 0, none⟩) 1 1) [⟨s, n⟩] :=
  (NewL.ofOwn ownSI (OwnSl.lit (T := tSI) (l := [⟨s, n⟩]) (css := [siCells ⟨s, n⟩]) rfl ⟨tSI_mk h, trivial⟩ (Nat.le_refl _) (show 1 ≤ maxLen by decide)) (Nat.le_refl _)).sl
set_option maxHeartbeats 1000000 in
theorem charge_any (w : World) : Calls Tryz.prog 29 #[] w fun e w' => (∃ a c, e = .returned (agX (.slice a 1 c)) ∧ SlIs tSI (· < w'.heap.size) w' (.slice a 1 c) cX.ls) ∧ Below w.heap.size w w' := by
  have n0 := alloc2_0 w (.cells #[.string ⟨#[116, 58, 99, 49, 46, 53]⟩, .string ⟨#[65, 66, 49, 50]⟩, .string ⟨#[109]⟩, .int .i64 1, .int .i64 100, .slice (some ⟨w.heap.size + 1, 0, none⟩) 1 1, .int .i64 400] 49) (.cells #[.string ⟨#[98, 97, 115, 101]⟩, .int .i64 400] 140)
  have HB0 := Lib.hid (bl_alloc (bl_alloc (Below.refl w.heap.size w) (.cells #[.string ⟨#[116, 58, 99, 49, 46, 53]⟩, .string ⟨#[65, 66, 49, 50]⟩, .string ⟨#[109]⟩, .int .i64 1, .int .i64 100, .slice (some ⟨w.heap.size + 1, 0, none⟩) 1 1, .int .i64 400] 49)) (.cells #[.string ⟨#[98, 97, 115, 101]⟩, .int .i64 400] 140))
  have HS := Lib.hid ((oneSI (W := w.alloc (.cells #[.string ⟨#[116, 58, 99, 49, 46, 53]⟩, .string ⟨#[65, 66, 49, 50]⟩, .string ⟨#[109]⟩, .int .i64 1, .int .i64 100, .slice (some ⟨w.heap.size + 1, 0, none⟩) 1 1, .int .i64 400] 49)) (s := ⟨#[98, 97, 115, 101]⟩) (n := 400) (t := 140) ⟨by decide, by unfold i64ok; decide⟩).keep (S' := (· < ((w.alloc (.cells #[.string ⟨#[116, 58, 99, 49, 46, 53]⟩, .string ⟨#[65, 66, 49, 50]⟩, .string ⟨#[109]⟩, .int .i64 1, .int .i64 100, .slice (some ⟨w.heap.size + 1, 0, none⟩) 1 1, .int .i64 400] 49)).alloc (.cells #[.string ⟨#[98, 97, 115, 101]⟩, .int .i64 400] 140)).heap.size)) (fun _ h => h.2) (SameOn.refl _ _))
  obtain ⟨x0, x1, x2, x3, x4, x5, x6, -⟩ := blk7 n0
  clear n0
  go_enter Tryz.func29, Tryz.ntmps29
  go_wp2
  refine bodyPost_ret (v := agX (.slice (some ⟨w.heap.size + 1, 0, none⟩) 1 1)) (by simp [results, Tryz.results29, go_sem, x0, x1, x2, x3, x4, x5, x6, agX]) rfl ⟨⟨_, _, rfl, by have h := HS.out; simp only [World.size_alloc] at h ⊢; exact h⟩, HB0.out⟩
/-- what awake has in its boxes -/
structure AwS (g1 g3 g5 g7 g9 : Nat) (kx : ByteArray) (v1 d1 v3 d3 v5 d5 v7 d7 vp : Value) (wr : World) : Prop where
  b1 : BB g1 v1 d1 wr
  b3 : BB g3 v3 d3 wr
  b5 : BB g5 v5 d5 wr
  b7 : BB g7 v7 d7 wr
  b9 : wr.heap[g9]? = some (.cells #[.string kx, .int .i64 100, vp] 56 (0, 0))
  s1 : SlIs (tEnt 101) (· < wr.heap.size) wr v1 [e0X]
  t1 : SlIs (tChg eL) (· < wr.heap.size) wr d1 [cX]
  s3 : SlIs (tEnt 101) (· < wr.heap.size) wr v3 [e0X, p0X]
  t3 : SlIs (tChg eL) (· < wr.heap.size) wr d3 [cX]
  s5 : SlIs (tEnt 101) (· < wr.heap.size) wr v5 [e0X, v0X]
  t5 : SlIs (tChg eL) (· < wr.heap.size) wr d5 []
  s7 : SlIs (tEnt 101) (· < wr.heap.size) wr v7 [e0X]
  t7 : SlIs (tChg eL) (· < wr.heap.size) wr d7 [cX]
  p9 : SlIs tSI (· < wr.heap.size) wr vp [⟨aX, 300⟩, ⟨rX, -300⟩]
theorem AwS.step {g1 g3 g5 g7 g9 : Nat} {kx : ByteArray} {v1 d1 v3 d3 v5 d5 v7 d7 vp : Value} {wr w' : World} (h : AwS g1 g3 g5 g7 g9 kx v1 d1 v3 d3 v5 d5 v7 d7 vp wr) (hb : Below wr.heap.size wr w') : AwS g1 g3 g5 g7 g9 kx v1 d1 v3 d3 v5 d5 v7 d7 vp w' :=
  ⟨(hb.block _ (lt_of_heap h.b1)).trans h.b1, (hb.block _ (lt_of_heap h.b3)).trans h.b3, (hb.block _ (lt_of_heap h.b5)).trans h.b5, (hb.block _ (lt_of_heap h.b7)).trans h.b7, (hb.block _ (lt_of_heap h.b9)).trans h.b9,
    h.s1.step hb, h.t1.step hb, h.s3.step hb, h.t3.step hb, h.s5.step hb, h.t5.step hb, h.s7.step hb, h.t7.step hb, h.p9.step hb⟩
theorem bokX0 : BOk [cX] 0 ⟨[], []⟩ := ⟨by decide, by decide, fun _ h => by simp at h, List.Pairwise.nil, fun _ h => by simp at h, fun x h => by simp at h; subst h; exact cokX, fun _ h => by simp at h⟩
theorem bokX1 : BOk [cX] 1 ⟨[e0X], [cX]⟩ := by
  have := bokX0.apply (c := []) (x := cX) (by decide) (by simp)
  rw [applyX] at this
  exact this
theorem fitX : Fit (posL [e0X, p0X]) := fit_all.1 (by decide)
theorem cf0 : CfOk [] := fun _ h => by simp at h
/-- a row of one charge -/
theorem oneChg {W : World} {x : Chg} {vx : Value} (hx : ChgOk x) (h : SlIs tSI (· < W.heap.size) W vx x.ls) : SlIs (tChg eL) (· < (W.alloc (.cells (cCells x vx).toArray 49)).heap.size) (W.alloc (.cells (cCells x vx).toArray 49)) (.slice (some ⟨W.heap.size, 0, none⟩) 1 1) [x] :=
  (OwnSl.lit (T := tChg eL) (l := [x]) (css := [cCells x vx]) (by simp) ⟨tChg_mk hx h, trivial⟩ (Nat.le_refl _) (show 1 ≤ maxLen by decide)).sl
/-- books in a new box, from later worlds -/
theorem bkBox {w1 : World} {v d : Value} {es : List Ent} {ds : List Chg} {S1 S2 : Nat → Prop} (hv : SlIs (tEnt 101) S1 w1 v es) (h1 : ∀ k, S1 k → k < w1.heap.size) (hd : SlIs (tChg eL) S2 w1 d ds) (h2 : ∀ k, S2 k → k < w1.heap.size) :
    ∀ W, Below (w1.alloc (.cells #[v, d] 70)).heap.size (w1.alloc (.cells #[v, d] 70)) W → BB w1.heap.size v d W ∧ SlIs (tEnt 101) (· < W.heap.size) W v es ∧ SlIs (tChg eL) (· < W.heap.size) W d ds := fun W hW => by
  have hb : Below w1.heap.size w1 W := bl_trans (bl_alloc (Below.refl w1.heap.size w1) _) hW
  exact ⟨(hW.block _ (by simp)).trans (heap_alloc_new _ _), (hv.keep h1 (SameOn.refl _ _)).step hb, (hd.keep h2 (SameOn.refl _ _)).step hb⟩
set_option maxRecDepth 100000 in
set_option maxHeartbeats 16000000 in
theorem awake_any (w : World) (hf : FmtAll w) : Calls Tryz.prog 11 #[] w fun e w' => e = .returned (.bool true) ∧ Below w.heap.size w w' := by
  have HF := Lib.hid hf
  have HC0 := Lib.hid (charge_any w)
  unfold agX at HC0
  clear hf
  go_enter Tryz.func11, Tryz.ntmps11
  go_wp2_with (fail)
  with_reducible refine HC0.out.mono ?_
  clear HC0
  rintro r wa ⟨⟨a, c, rfl, hsa⟩, hba⟩
  have HAP := Lib.hid (show Calls Tryz.prog 21 #[.agg #[.slice none 0 0, .slice none 0 0, .slice none 0 0, .slice none 0 0, .slice none 0 0, .slice none 0 0, .int .i64 0, .int .i64 0, .slice none 0 0, .int .i64 0, .slice none 0 0, .slice none 0 0, .slice none 0 0, .slice none 0 0, .slice none 0 0, .slice none 0 0, .slice none 0 0, .slice none 0 0, .slice none 0 0, .slice none 0 0, .slice none 0 0, .slice none 0 0, .int .i64 0, .slice none 0 0, .string ⟨#[]⟩], .agg #[.slice none 0 0, .slice none 0 0], .agg #[.string ⟨#[116, 58, 99, 49, 46, 53]⟩, .string ⟨#[65, 66, 49, 50]⟩, .string ⟨#[109]⟩, .int .i64 1, .int .i64 100, .slice a 1 c, .int .i64 400]] wa (BookE wa (.agg #[.slice none 0 0, .slice none 0 0]) (⟨[e0X], [cX]⟩, 0)) from by
    have h := apply_any [cX] 0 [] (zCfg (.slice none 0 0)) (.slice none 0 0) (.slice none 0 0) (.slice none 0 0) (.slice a 1 c) [] [] cX wa (zCfgA _) SlIs.nil cf0 bokX0 (by decide) cokX SlIs.nil SlIs.nil chgX hsa (HF.out.step hba)
    rw [applyX] at h
    exact h)
  have HBa := Lib.hid hba
  unfold BookE at HAP
  clear hsa hba
  go_wp2_with (fail)
  with_reducible refine HAP.out.mono ?_
  clear HAP
  rintro r w1 ⟨v1, d1, rfl, hv1, hd1, hb1, -⟩
  have HB1 := Lib.hid (bl_trans HBa.out hb1)
  clear hb1 HBa
  obtain ⟨a1, c1, _, _, hvv, -⟩ := id hv1
  have hvv : v1 = .slice a1 1 c1 := hvv
  subst hvv
  obtain ⟨a2, c2, _, _, hvv, -⟩ := id hd1
  have hvv : d1 = .slice a2 1 c2 := hvv
  subst hvv
  go_upto_region 2 with (fail)
  have HBB1 := Lib.hid (bl_alloc (Below.refl w1.heap.size w1) (.cells #[(.slice a1 1 c1), (.slice a2 1 c2)] 70))
  have HK1 := Lib.hid (bkBox hv1 (fun k h => h.2) hd1 (fun k h => h.2))
  clear hv1 hd1
  generalize w1.alloc (.cells #[(.slice a1 1 c1), (.slice a2 1 c2)] 70) = u1 at HBB1 HK1 ⊢
  generalize w1.heap.size = g1 at HK1 ⊢
  have HU1 := Lib.hid (bl_trans HB1.out HBB1.out)
  obtain ⟨hbb, hs1, ht1⟩ := HK1.out u1 (Below.refl _ _)
  obtain ⟨x0, x1, -⟩ := blk2 hbb
  have HPY := Lib.hid (show Calls Tryz.prog 30 #[.agg #[.slice a1 1 c1, .slice a2 1 c2], .string ⟨#[97, 110, 110]⟩, .int .i64 50, .int .i64 200] u1 (BookE u1 (.agg #[.slice a1 1 c1, .slice a2 1 c2]) (⟨[e0X, p0X], [cX]⟩, 0)) from by
    have h := pay_any [cX] 1 (.slice a1 1 c1) (.slice a2 1 c2) [e0X] [cX] nX 50 200 u1 bokX1 (by decide) hs1 ht1 (by decide) (by unfold i64ok; decide) (by unfold i64ok; decide) (HF.out.step HU1.out)
    rw [payX] at h
    exact h)
  unfold BookE at HPY
  clear hbb hs1 ht1 HB1 HBB1
  go_wp2_with (fail)
  with_reducible refine HPY.out.mono ?_
  clear HPY
  rintro r w3 ⟨v3, d3, rfl, hv3, hd3, hb3, -⟩
  have HT3 := Lib.hid hb3
  obtain ⟨a3, c3, _, _, hvv, -⟩ := id hv3
  have hvv : v3 = .slice a3 2 c3 := hvv
  subst hvv
  obtain ⟨a4, c4, _, _, hvv, -⟩ := id hd3
  have hvv : d3 = .slice a4 1 c4 := hvv
  subst hvv
  clear hb3 x0 x1
  go_upto_region 3 with (fail)
  have HBB3 := Lib.hid (bl_alloc (Below.refl w3.heap.size w3) (.cells #[(.slice a3 2 c3), (.slice a4 1 c4)] 70))
  have HK3 := Lib.hid (bkBox hv3 (fun k h => h.2) hd3 (fun k h => h.2))
  clear hv3 hd3
  generalize w3.alloc (.cells #[(.slice a3 2 c3), (.slice a4 1 c4)] 70) = u3 at HBB3 HK3 ⊢
  generalize w3.heap.size = g3 at HK3 ⊢
  have HU3 := Lib.hid (bl_trans HT3.out HBB3.out)
  clear HT3 HBB3
  obtain ⟨hbb, hs1, ht1⟩ := HK1.out u3 HU3.out
  obtain ⟨x0, x1, -⟩ := blk2 hbb
  have HVO := Lib.hid (show Calls Tryz.prog 31 #[.agg #[.slice none 0 0, .slice none 0 0, .slice none 0 0, .slice none 0 0, .slice none 0 0, .slice none 0 0, .int .i64 0, .int .i64 0, .slice none 0 0, .int .i64 0, .slice none 0 0, .slice none 0 0, .slice none 0 0, .slice none 0 0, .slice none 0 0, .slice none 0 0, .slice none 0 0, .slice none 0 0, .slice none 0 0, .slice none 0 0, .slice none 0 0, .slice none 0 0, .int .i64 0, .slice none 0 0, .string ⟨#[]⟩], .agg #[.slice a1 1 c1, .slice a2 1 c2], .string ⟨#[116, 58, 99, 49, 46, 53]⟩, .int .i64 300] u3 (BookE u3 (.agg #[.slice a1 1 c1, .slice a2 1 c2]) (⟨[e0X, v0X], []⟩, 0)) from by
    have h := void_any [cX] 1 [] (zCfg (.slice none 0 0)) (.slice none 0 0) (.slice a1 1 c1) (.slice a2 1 c2) [e0X] [cX] kX 300 u3 (zCfgA _) SlIs.nil cf0 bokX1 (by decide) hs1 ht1 (by unfold i64ok; decide) (HF.out.step (bl_trans HU1.out HU3.out))
    rw [voidX] at h
    exact h)
  unfold BookE at HVO
  clear hbb hs1 ht1
  go_wp2_with (fail)
  with_reducible refine HVO.out.mono ?_
  clear HVO
  rintro r w5 ⟨v5, d5, rfl, hv5, hd5, hb5, -⟩
  have HT5 := Lib.hid hb5
  obtain ⟨a5, c5, _, _, hvv, -⟩ := id hv5
  have hvv : v5 = .slice a5 2 c5 := hvv
  subst hvv
  obtain ⟨a6, c6, _, _, hvv, -⟩ := id hd5
  have hvv : d5 = .slice a6 0 c6 := hvv
  subst hvv
  clear hb5 x0 x1
  go_upto_region 4 with (fail)
  have HBB5 := Lib.hid (bl_alloc (Below.refl w5.heap.size w5) (.cells #[(.slice a5 2 c5), (.slice a6 0 c6)] 70))
  have HK5 := Lib.hid (bkBox hv5 (fun k h => h.2) hd5 (fun k h => h.2))
  clear hv5 hd5
  generalize w5.alloc (.cells #[(.slice a5 2 c5), (.slice a6 0 c6)] 70) = u5 at HBB5 HK5 ⊢
  generalize w5.heap.size = g5 at HK5 ⊢
  have HU5 := Lib.hid (bl_trans HT5.out HBB5.out)
  clear HT5 HBB5
  have HC0 := Lib.hid (charge_any u5)
  unfold agX at HC0
  go_wp2_with (fail)
  with_reducible refine HC0.out.mono ?_
  clear HC0
  rintro r wb ⟨⟨ab, cb, rfl, hsb⟩, hbb⟩
  have HSb := Lib.hid hsb
  have HUb := Lib.hid hbb
  clear hsb hbb
  have HSB := Lib.hid (show SlIs (tChg eL) (· < (wb.alloc (.cells #[.string ⟨#[116, 58, 99, 49, 46, 53]⟩, .string ⟨#[65, 66, 49, 50]⟩, .string ⟨#[109]⟩, .int .i64 1, .int .i64 100, .slice ab 1 cb, .int .i64 400] 49)).heap.size) (wb.alloc (.cells #[.string ⟨#[116, 58, 99, 49, 46, 53]⟩, .string ⟨#[65, 66, 49, 50]⟩, .string ⟨#[109]⟩, .int .i64 1, .int .i64 100, .slice ab 1 cb, .int .i64 400] 49)) (.slice (some ⟨wb.heap.size, 0, none⟩) 1 1) [cX] from oneChg chgX HSb.out)
  have HUc := Lib.hid (bl_trans HUb.out (bl_alloc (Below.refl wb.heap.size wb) (.cells #[.string ⟨#[116, 58, 99, 49, 46, 53]⟩, .string ⟨#[65, 66, 49, 50]⟩, .string ⟨#[109]⟩, .int .i64 1, .int .i64 100, .slice ab 1 cb, .int .i64 400] 49)))
  have HSYN := Lib.hid (show Calls Tryz.prog 23 #[.agg #[.slice none 0 0, .slice none 0 0, .slice none 0 0, .slice none 0 0, .slice none 0 0, .slice none 0 0, .int .i64 0, .int .i64 0, .slice none 0 0, .int .i64 0, .slice none 0 0, .slice none 0 0, .slice none 0 0, .slice none 0 0, .slice none 0 0, .slice none 0 0, .slice none 0 0, .slice none 0 0, .slice none 0 0, .slice none 0 0, .slice none 0 0, .slice none 0 0, .int .i64 0, .slice none 0 0, .string ⟨#[]⟩], .agg #[.slice none 0 0, .slice none 0 0], .slice (some ⟨wb.heap.size, 0, none⟩) 1 1, .int .i64 300] (wb.alloc (.cells #[.string ⟨#[116, 58, 99, 49, 46, 53]⟩, .string ⟨#[65, 66, 49, 50]⟩, .string ⟨#[109]⟩, .int .i64 1, .int .i64 100, .slice ab 1 cb, .int .i64 400] 49)) (BookE _ (.agg #[.slice none 0 0, .slice none 0 0]) (⟨[e0X], [cX]⟩, 0)) from by
    have h := sync_any [cX] 0 [] (zCfg (.slice none 0 0)) (.slice none 0 0) (.slice none 0 0) (.slice none 0 0) (.slice (some ⟨wb.heap.size, 0, none⟩) 1 1) [] [] [cX] 300 _ (zCfgA _) SlIs.nil cf0 bokX0 (by decide) SlIs.nil SlIs.nil HSB.out (fun _ h => h) (by decide) (fun x h => by rw [List.mem_singleton] at h; subst h; exact chgX) (by unfold i64ok; decide) (HF.out.step (bl_trans (bl_trans (bl_trans HU1.out HU3.out) HU5.out) HUc.out))
    rw [syncX] at h
    exact h)
  unfold BookE at HSYN
  go_wp2_with (fail)
  with_reducible refine HSYN.out.mono ?_
  clear HSYN HSB HSb HUb
  rintro r w7 ⟨v7, d7, rfl, hv7, hd7, hb7, -⟩
  have HT7 := Lib.hid hb7
  obtain ⟨a7, c7, _, _, hvv, -⟩ := id hv7
  have hvv : v7 = .slice a7 1 c7 := hvv
  subst hvv
  obtain ⟨a8, c8, _, _, hvv, -⟩ := id hd7
  have hvv : d7 = .slice a8 1 c8 := hvv
  subst hvv
  clear hb7
  go_upto_region 5 with (fail)
  have HBB7 := Lib.hid (bl_alloc (Below.refl w7.heap.size w7) (.cells #[(.slice a7 1 c7), (.slice a8 1 c8)] 70))
  have HK7 := Lib.hid (bkBox hv7 (fun k h => h.2) hd7 (fun k h => h.2))
  clear hv7 hd7
  generalize w7.alloc (.cells #[(.slice a7 1 c7), (.slice a8 1 c8)] 70) = u7 at HBB7 HK7 ⊢
  generalize w7.heap.size = g7 at HK7 ⊢
  have HU57 := Lib.hid (bl_trans HUc.out (bl_trans HT7.out HBB7.out))
  clear HT7 HBB7 HUc
  have HC0 := Lib.hid (charge_any u7)
  unfold agX at HC0
  go_wp2_with (fail)
  with_reducible refine HC0.out.mono ?_
  clear HC0
  rintro r wd ⟨⟨ad, cd, rfl, hsd⟩, hbd⟩
  obtain ⟨kx, hkx⟩ : ∃ kx : ByteArray, kx = ⟨#[116, 58, 99, 49, 46, 53, 35, 50]⟩ := ⟨_, rfl⟩
  have HEY := Lib.hid (show Calls Tryz.prog 12 #[.agg #[.slice none 0 0, .slice none 0 0, .slice none 0 0, .slice none 0 0, .slice none 0 0, .slice none 0 0, .int .i64 0, .int .i64 0, .slice none 0 0, .int .i64 0, .slice none 0 0, .slice none 0 0, .slice none 0 0, .slice none 0 0, .slice none 0 0, .slice none 0 0, .slice none 0 0, .slice none 0 0, .slice none 0 0, .slice none 0 0, .slice none 0 0, .slice none 0 0, .int .i64 0, .slice none 0 0, .string ⟨#[]⟩], .agg #[.string ⟨#[116, 58, 99, 49, 46, 53]⟩, .string ⟨#[65, 66, 49, 50]⟩, .string ⟨#[109]⟩, .int .i64 1, .int .i64 100, .slice ad 1 cd, .int .i64 400], .int .i64 100, .int .i64 2] wd (fun r w' => (∃ vp, r = .returned (.tuple #[.agg #[.string kx, .int .i64 100, vp], .int .i64 0]) ∧ SlIs tSI (· < w'.heap.size) w' vp [⟨aX, 300⟩, ⟨rX, -300⟩]) ∧ Below wd.heap.size wd w') from by
    have h := entry_any [] (zCfg (.slice none 0 0)) (.slice none 0 0) cX (.slice ad 1 cd) 100 2 wd (zCfgA _) SlIs.nil cf0 chgX cokX hsd (by unfold i64ok; decide) (by unfold i64ok; decide) (HF.out.step (bl_trans (bl_trans (bl_trans (bl_trans HU1.out HU3.out) HU5.out) HU57.out) hbd))
    rw [entryX] at h
    rw [hkx]
    exact h)
  have HUd := Lib.hid hbd
  have HKX := Lib.hid hkx
  clear hsd hbd hkx
  go_wp2_with (fail)
  with_reducible refine HEY.out.mono ?_
  clear HEY
  rintro r w9 ⟨⟨vp, rfl, hvp⟩, hb9⟩
  obtain ⟨ap, cp, _, _, hvv, -⟩ := id hvp
  have hvv : vp = .slice ap 2 cp := hvv
  subst hvv
  have HVP := Lib.hid hvp
  have HU9 := Lib.hid (bl_trans HUd.out hb9)
  clear hvp hb9 HUd
  go_upto_region 6 with (fail)
  have n9 := heap_alloc_new w9 (.cells #[.string kx, .int .i64 100, .slice ap 2 cp] 56)
  have hb9 := bl_alloc (Below.refl w9.heap.size w9) (.cells #[.string kx, .int .i64 100, .slice ap 2 cp] 56)
  have HVQ := Lib.hid (HVP.out.step hb9)
  have HUA := Lib.hid (bl_trans HU9.out hb9)
  clear hb9 HU9 HVP
  generalize w9.alloc (.cells #[.string kx, .int .i64 100, .slice ap 2 cp] 56) = uA at n9 HVQ HUA ⊢
  generalize w9.heap.size = g9 at n9 ⊢
  have HN9 := Lib.hid n9
  have HQ := Lib.hid (show AwS g1 g3 g5 g7 g9 kx (.slice a1 1 c1) (.slice a2 1 c2) (.slice a3 2 c3) (.slice a4 1 c4) (.slice a5 2 c5) (.slice a6 0 c6) (.slice a7 1 c7) (.slice a8 1 c8) (.slice ap 2 cp) uA from by
    obtain ⟨q1, q2, q3⟩ := HK1.out uA (bl_trans HU3.out (bl_trans HU5.out (bl_trans HU57.out HUA.out)))
    obtain ⟨q4, q5, q6⟩ := HK3.out uA (bl_trans HU5.out (bl_trans HU57.out HUA.out))
    obtain ⟨q7, q8, q9⟩ := HK5.out uA (bl_trans HU57.out HUA.out)
    obtain ⟨q10, q11, q12⟩ := HK7.out uA HUA.out
    exact ⟨q1, q4, q7, q10, n9, q2, q3, q5, q6, q8, q9, q11, q12, HVQ.out⟩)
  have HWA := Lib.hid (bl_trans HU1.out (bl_trans HU3.out (bl_trans HU5.out (bl_trans HU57.out HUA.out))))
  clear n9 HVQ HK1 HK3 HK5 HK7 HU1 HU3 HU5 HU57 HUA
  have HSM := Lib.hid (bsame_any [e0X] [cX] (.slice a1 1 c1) (.slice a2 1 c2) (.slice a7 1 c7) (.slice a8 1 c8) uA HQ.out.s1 HQ.out.t1 HQ.out.s7 HQ.out.t7)
  obtain ⟨x0, x1, -⟩ := blk2 HQ.out.b1
  obtain ⟨y0, y1, -⟩ := blk2 HQ.out.b3
  obtain ⟨z0, z1, -⟩ := blk2 HQ.out.b5
  obtain ⟨t0, t1, -⟩ := blk2 HQ.out.b7
  go_wp2_with (fail)
  with_reducible refine HSM.out.mono ?_
  clear HSM
  rintro r w10 ⟨rfl, hb10⟩
  have HQ2 := Lib.hid (HQ.out.step hb10)
  have HW2 := Lib.hid (bl_trans HWA.out hb10)
  clear hb10 x0 x1 y0 y1 z0 z1 t0 t1 HQ HWA
  obtain ⟨x0, x1, -⟩ := blk2 HQ2.out.b1
  obtain ⟨z0, z1, -⟩ := blk2 HQ2.out.b5
  obtain ⟨e0, e1, e2, -⟩ := blk3 HQ2.out.b9
  obtain ⟨_, _, pb, po, hpe, -, -, hpo⟩ := si_open HQ2.out.p9
  obtain ⟨hpa, -, -, -, pc0, pc1⟩ := hpo w10 (SameOn.refl _ _) 0 (by decide)
  injection hpe with hp1 hp2 hp3
  rw [hpa] at hp1
  subst hp1
  obtain ⟨_, _, eb, eo, hee, -, -, heo⟩ := ent_open HQ2.out.s1
  obtain ⟨hea, -, -, -, hev, -, ec0, -, -⟩ := heo w10 (SameOn.refl _ _) 0 (by decide)
  injection hee with he1 he2 he3
  rw [hea] at he1
  subst he1
  simp only [List.getElem_cons_zero] at pc0 pc1 ec0
  have hkk : (kx.toList == [116, 58, 99, 49, 46, 53, 35, 50]) = true := by rw [HKX.out, ByteArray.toList_eq]; decide
  obtain ⟨ka, hka⟩ : ∃ ka : ByteArray, ka = aX := ⟨_, rfl⟩
  obtain ⟨ke, hke⟩ : ∃ ke : ByteArray, ke = e0X.key := ⟨_, rfl⟩
  rw [← hka] at pc0
  rw [← hke] at ec0
  rw [Nat.zero_mul, Nat.add_zero] at pc0 pc1 ec0
  have hkb : (ka.toList == [99, 97, 115, 101, 58, 65, 66, 49, 50]) = true := by rw [hka, ByteArray.toList_eq]; decide
  have hkc : (ke.toList == [116, 58, 99, 49, 46, 53, 35, 48]) = true := by rw [hke, ByteArray.toList_eq]; decide
  have HP1 := Lib.hid (show Calls Tryz.prog 19 #[.agg #[.slice (some ⟨eb, eo, none⟩) 1 c1, .slice a2 1 c2], .string ⟨#[116, 58, 99, 49, 46, 53]⟩] w10 (fun e w' => e = .returned (.int .i64 400) ∧ Below w10.heap.size w10 w') from by
    have h := posted_any [cX] (some ⟨eb, eo, none⟩) 1 c1 (.slice a2 1 c2) kX w10 HQ2.out.t1
    rw [postedX] at h
    exact h)
  clear hpo heo hka hke hpa hea hp2 hp3 he2 he3
  go_wp2_with (fail)
  with_reducible refine HP1.out.mono ?_
  clear HP1
  rintro r w11 ⟨rfl, hb11⟩
  have HQ3 := Lib.hid (HQ2.out.step hb11)
  have HW3 := Lib.hid (bl_trans HW2.out hb11)
  clear hb11 x0 x1 z0 z1 e0 e1 e2 pc0 pc1 ec0 hev
  obtain ⟨z0, z1, -⟩ := blk2 HQ3.out.b5
  have HP2 := Lib.hid (show Calls Tryz.prog 19 #[.agg #[.slice a5 2 c5, .slice a6 0 c6], .string ⟨#[116, 58, 99, 49, 46, 53]⟩] w11 (fun e w' => e = .returned (.int .i64 0) ∧ Below w11.heap.size w11 w') from by
    have h := posted_any [] a5 2 c5 (.slice a6 0 c6) kX w11 HQ3.out.t5
    rw [postedY] at h
    exact h)
  go_wp2_with (fail)
  with_reducible refine HP2.out.mono ?_
  clear HP2
  rintro r w12 ⟨rfl, hb12⟩
  have HQ4 := Lib.hid (HQ3.out.step hb12)
  have HW4 := Lib.hid (bl_trans HW3.out hb12)
  clear hb12 z0 z1
  obtain ⟨z0, z1, -⟩ := blk2 HQ4.out.b3
  have HBL := Lib.hid (show Calls Tryz.prog 26 #[.agg #[.slice a3 2 c3], .string ⟨#[97, 99, 99, 111, 117, 110, 116, 58, 97, 110, 110]⟩] w12 (fun e w' => e = .returned (.int .i64 (-50)) ∧ Below w12.heap.size w12 w') from by
    have h := balR_any [e0X, p0X] (.slice a3 2 c3) naX w12 HQ4.out.s3 ⟨by decide, fitX⟩
    rw [balX] at h
    exact h)
  go_wp2_with (fail)
  with_reducible refine HBL.out.mono ?_
  clear HBL
  rintro r w13 ⟨rfl, hb13⟩
  have HQ5 := Lib.hid (HQ4.out.step hb13)
  have HW5 := Lib.hid (bl_trans HW4.out hb13)
  clear hb13 z0 z1
  obtain ⟨z0, z1, -⟩ := blk2 HQ5.out.b3
  have HCK := Lib.hid (show Calls Tryz.prog 17 #[.agg #[.slice a3 2 c3, .slice a4 1 c4]] w13 (fun e w' => e = .returned (.int .i64 0) ∧ Below w13.heap.size w13 w') from by
    have h := bcheck_any (.slice a3 2 c3) (.slice a4 1 c4) [e0X, p0X] [cX] w13 HQ5.out.s3 HQ5.out.t3 (fun x h => by rw [List.mem_singleton] at h; subst h; decide) (by decide)
    rw [checkX] at h
    exact h)
  go_wp2_with (fail)
  with_reducible refine HCK.out.mono ?_
  clear HCK
  rintro r w14 ⟨rfl, hb14⟩
  have HW6 := Lib.hid (bl_trans HW5.out hb14)
  clear hb14 z0 z1
  have HZB := Lib.hid (show SlIs (tChg eL) (· < (w14.alloc (.cells #[.string ⟨#[]⟩, .string ⟨#[]⟩, .string ⟨#[]⟩, .int .i64 0, .int .i64 0, .slice none 0 0, .int .i64 0] 49)).heap.size) (w14.alloc (.cells #[.string ⟨#[]⟩, .string ⟨#[]⟩, .string ⟨#[]⟩, .int .i64 0, .int .i64 0, .slice none 0 0, .int .i64 0] 49)) (.slice (some ⟨w14.heap.size, 0, none⟩) 1 1) [zeroC] from oneChg (x := zeroC) ⟨by decide, by decide, by decide, by unfold i64ok; decide, by unfold i64ok; decide, by unfold i64ok; decide⟩ SlIs.nil)
  have HCZ := Lib.hid (show Calls Tryz.prog 17 #[.agg #[.slice none 0 0, .slice (some ⟨w14.heap.size, 0, none⟩) 1 1]] (w14.alloc (.cells #[.string ⟨#[]⟩, .string ⟨#[]⟩, .string ⟨#[]⟩, .int .i64 0, .int .i64 0, .slice none 0 0, .int .i64 0] 49)) (fun e w' => e = .returned (.int .i64 6) ∧ Below (w14.alloc (.cells #[.string ⟨#[]⟩, .string ⟨#[]⟩, .string ⟨#[]⟩, .int .i64 0, .int .i64 0, .slice none 0 0, .int .i64 0] 49)).heap.size (w14.alloc (.cells #[.string ⟨#[]⟩, .string ⟨#[]⟩, .string ⟨#[]⟩, .int .i64 0, .int .i64 0, .slice none 0 0, .int .i64 0] 49)) w') from by
    have h := bcheck_any (.slice none 0 0) (.slice (some ⟨w14.heap.size, 0, none⟩) 1 1) [] [zeroC] _ SlIs.nil HZB.out (fun x h => by rw [List.mem_singleton] at h; subst h; decide) (by decide)
    rw [checkY] at h
    exact h)
  have HW7 := Lib.hid (bl_trans HW6.out (bl_alloc (Below.refl w14.heap.size w14) (.cells #[.string ⟨#[]⟩, .string ⟨#[]⟩, .string ⟨#[]⟩, .int .i64 0, .int .i64 0, .slice none 0 0, .int .i64 0] 49)))
  go_wp2_with (fail)
  with_reducible refine HCZ.out.mono ?_
  clear HCZ
  rintro r w15 ⟨rfl, hb15⟩
  have HW8 := Lib.hid (bl_trans HW7.out hb15)
  clear hb15
  go_wp2
  go_ret
  exact ⟨rfl, HW8.out⟩
end Go.Proofs.YtifcelebfagjbaaGreatDoor
/-
  Layer 37 (post): text.Format, of small numbers and of any.
-/
namespace Go.Proofs.YtifcelebfagjbaaGreatDoor
open Go.RowKit Go.Tw Go.Tw.Ord Go.Tw.Po Go.Sort
theorem fmt_small (n : Nat) (hn : n < 100) (w : World) : FmtOk n w := fun w' _ => fmt_of n w' ((Tryz.strconv_Itoa_small n hn w').mono fun e w'' h => by
  obtain ⟨h1, rfl⟩ := h
  refine ⟨?_, GrB.refl _⟩
  rw [h1]
  unfold fmtS Lib.itoa
  rw [if_neg (by omega)]
  rfl)
theorem fmt_tab (n : Int) (hn : i64ok n) (w : World) (htab : Lib.TabIs Tryz.prog w "internal/strconv.uint64pow10" .u64 Lib.pow10Tab) {g : Nat} (hg : Tryz.prog.globalNamed "internal/strconv.uint64pow10" = some g) : FmtOk n w := fun w' hw => fmt_of n w' ((Tryz.strconv_Itoa n hn.1 hn.2 w' (Go.Joins.tab_stays hg htab hw (Nat.le_refl _))).mono fun _ _ h => ⟨h.1, h.2⟩)
end Go.Proofs.YtifcelebfagjbaaGreatDoor
/-
  Layer 37 (post): what the laws are handed; short.
-/
namespace Go.Proofs.YtifcelebfagjbaaGreatDoor
open Go.RowKit Go.Tw Go.Tw.Ord Go.Tw.Po Go.Sort Go.ChangeShapes Go.WideShapes
theorem own0 : ownKnob Tryz.prog.godebug = none := by kernel_rfl
theorem laid0 : laidOutB Tryz.prog = true := by kernel_rfl
def laidL : List (String × DataW Unit) := [("math/bits.deBruijn32tab", Rows.laid_math_bits_deBruijn32tab), ("math/bits.deBruijn64tab", Rows.laid_math_bits_deBruijn64tab), ("internal/strconv.uint64pow10", Rows.laid_internal_strconv_uint64pow10)]
theorem door_met (os : Os) (args : Array Value) : laidMetH Tryz.prog laidL ((World.doorLaid Tryz.prog 24 os).forCall (fun _ _ => 0) ⟨#[], args, []⟩).memory :=
  laidMetH_of_parts3 (fuel := 8) (laidMet_of_run' 8 (by kernel_rfl) (by kernel_rfl)) (by kernel_rfl) (by kernel_rfl)
theorem tab_of {W : World} (h : laidMetH Tryz.prog laidL W) : Lib.TabIs Tryz.prog W "internal/strconv.uint64pow10" .u64 Lib.pow10Tab := by
  have h2 : laidMet Tryz.prog laidL W := h
  have h3 := laidMet.tail (laidMet.tail h2)
  have e : (Rows.laid_internal_strconv_uint64pow10 : DataW Unit) = Lib.tabData .u64 Lib.pow10Tab := rfl
  rw [e] at h3
  exact Lib.tabIs_of_head (g := 1) (t := 227) (e := 196) (n := 20) (by kernel_rfl) (by kernel_rfl) Tryz.underlying227 Tryz.underlying196 (by kernel_rfl) (by kernel_rfl) h3
theorem fmt_all {W : World} (h : laidMetH Tryz.prog laidL W) : FmtAll W := fun n hn => fmt_tab n hn W (tab_of h) (g := 1) (by kernel_rfl)
theorem opensLine : Opens Tryz.prog 140 tSI := opens_via (fun x => ⟨x.1, x.2⟩) (fun _ => rfl) (opens_struct Tryz.underlying140 (by kernel_rfl) (.cons rfl (by kernel_rfl) (opens_str Tryz.underlying9) (.one rfl (by kernel_rfl) (opens_int Tryz.underlying3))))
theorem opensPost : Opens Tryz.prog 101 tSI := opens_via (fun x => ⟨x.1, x.2⟩) (fun _ => rfl) (opens_struct Tryz.underlying101 (by kernel_rfl) (.cons rfl (by kernel_rfl) (opens_str Tryz.underlying9) (.one rfl (by kernel_rfl) (opens_int Tryz.underlying3))))
theorem opensChg : Opens Tryz.prog 49 (tChg eL) :=
  opens_via (fun x => ⟨x.1, x.2.1, x.2.2.1, x.2.2.2.1, x.2.2.2.2.1, x.2.2.2.2.2.1, x.2.2.2.2.2.2⟩) (fun _ => rfl)
    (opens_struct Tryz.underlying49 (by kernel_rfl) (.cons rfl (by kernel_rfl) (opens_str Tryz.underlying9) (.cons rfl (by kernel_rfl) (opens_str Tryz.underlying9) (.cons rfl (by kernel_rfl) (opens_str Tryz.underlying9) (.cons rfl (by kernel_rfl) (opens_int Tryz.underlying3)
      (.cons rfl (by kernel_rfl) (opens_int Tryz.underlying3) (.cons rfl (by kernel_rfl) (opens_slice Tryz.underlying47 (by kernel_rfl) (by decide) opensLine (e' := eL)) (.one rfl (by kernel_rfl) (opens_int Tryz.underlying3)))))))))
theorem opensChgs {e : TypeId} : Opens Tryz.prog 52 ((tChg eL).list e) := opens_slice Tryz.underlying52 (by kernel_rfl) (by decide) opensChg
theorem opensEnt : Opens Tryz.prog 56 (tEnt 101) :=
  opens_via (fun x => ⟨x.1, x.2.1, x.2.2⟩) (fun _ => rfl)
    (opens_struct Tryz.underlying56 (by kernel_rfl) (.cons rfl (by kernel_rfl) (opens_str Tryz.underlying9) (.cons rfl (by kernel_rfl) (opens_int Tryz.underlying3) (.one rfl (by kernel_rfl) (opens_slice Tryz.underlying54 (by kernel_rfl) (by decide) opensPost (e' := 101))))))
theorem opensEnts {e : TypeId} : Opens Tryz.prog 66 ((tEnt 101).list e) := opens_slice Tryz.underlying66 (by kernel_rfl) (by decide) opensEnt
theorem opensLed {e : TypeId} : Opens Tryz.prog 68 ((tEnt 101).list e) := opens_struct Tryz.underlying68 (by kernel_rfl) (.one rfl (by kernel_rfl) opensEnts)
theorem opensBooks {e e' : TypeId} : Opens Tryz.prog 70 (((tEnt 101).list e).pair ((tChg eL).list e')) := opens_struct Tryz.underlying70 (by kernel_rfl) (.cons rfl (by kernel_rfl) opensLed (.one rfl (by kernel_rfl) opensChgs))
theorem awake_re {w : World} (hf : FmtAll w) (d : Nat) (os : Array Obj) : Calls Tryz.prog 11 #[] (grow (redrawn w d) os) fun e w'' => e = .returned (.bool true) ∧ ∃ p : Regrown, w'' = grow (redrawn w p.d) p.os :=
  Calls.regrown_of (awake_any _ (hf.step (below_regrown w d os)))
/-- short -/
def ShB (l : List Chg) (e : Ending) : Prop := ∃ b, e = .returned (.bool b) ∧ (b = true → l.length ≤ 8 ∧ ∀ x ∈ l, COk x)
set_option maxRecDepth 100000 in
set_option maxHeartbeats 2000000 in
theorem short_any (l : List Chg) (v : Value) (w : World) (h : SlIs (tChg eL) (· < w.heap.size) w v l) :
    Calls Tryz.prog 10 #[v] w fun e w' => ShB l e ∧ Below w.heap.size w w' := by
  obtain ⟨ao, cap, bi, off, rfl, hl1, hm1, ho⟩ := chg_open h
  unfold maxLen at hm1
  have HO := Lib.hid ho
  clear h ho
  go_enter Tryz.func10, Tryz.ntmps10
  go_wp2
  go_loopg [3] l.length (fun g i wr => ∃ k : Nat, k + g = l.length ∧ i = .int .i64 k ∧ Hid (∀ j (hj : j < l.length), j < k → COk l[j]) ∧ Below w.heap.size w wr)
  case atStart => exact ⟨0, by omega, rfl, Lib.hid (fun j _ h => by omega), Below.refl _ _⟩
  case round =>
    obtain ⟨k, hk, rfl, HT, hb1⟩ := hrel
    have HB := Lib.hid hb1
    by_cases hlt : k < l.length
    · obtain ⟨rfl, -, hbi, -, hv, hsl, d0, d1, d2, d3, d4, d5, d6⟩ := HO.out wr (.of_below hb1) k hlt
      have k0 : (0 : Int) ≤ (k : Int) := by omega
      have k1 : (k : Int) < (l.length : Int) := by omega
      have HG1 := Lib.hid (show ∀ j (hj : j < l.length), j = k → l[j] = l[k] by rintro j hj rfl; rfl)
      generalize l[k] = x at *
      obtain ⟨hva, hvc, _, _, rfl, -⟩ := hsl
      clear hb1
      by_cases h1 : 12 < x.ls.length
      · have q1 : (12 : Int) < (x.ls.length : Int) := by omega
        go_wp2
        go_ret
        exact ⟨⟨_, rfl, fun h => by cases h⟩, HB.out⟩
      have q1 : decide ((12 : Int) < (x.ls.length : Int)) = false := by simp; omega
      by_cases h2 : 60 < x.key.size
      · have q2 : (60 : Int) < (x.key.size : Int) := by omega
        go_wp2
        go_ret
        exact ⟨⟨_, rfl, fun h => by cases h⟩, HB.out⟩
      have q2 : decide ((60 : Int) < (x.key.size : Int)) = false := by simp; omega
      by_cases h3 : 30 < x.veh.size
      · have q3 : (30 : Int) < (x.veh.size : Int) := by omega
        go_wp2
        go_ret
        exact ⟨⟨_, rfl, fun h => by cases h⟩, HB.out⟩
      have q3 : decide ((30 : Int) < (x.veh.size : Int)) = false := by simp; omega
      by_cases h4 : 30 < x.sys.size
      · have q4 : (30 : Int) < (x.sys.size : Int) := by omega
        go_wp2
        go_ret
        exact ⟨⟨_, rfl, fun h => by cases h⟩, HB.out⟩
      have q4 : decide ((30 : Int) < (x.sys.size : Int)) = false := by simp; omega
      have HX := Lib.hid (show COk x from ⟨by omega, by omega, by omega, by omega⟩)
      clear h1 h2 h3 h4
      go_wp2
      go_roundg (l.length - (k + 1))
      case measure => omega
      case rel => exact ⟨k + 1, by omega, by go_num, Lib.hid (fun j hj h => by
        by_cases e : j = k
        · rw [HG1.out j hj e]; exact HX.out
        · exact HT.out j hj (by omega)), HB.out⟩
    · have hkd : decide ((k : Int) < (l.length : Int)) = false := by simp; omega
      have HA := Lib.hid (show ∀ x ∈ l, COk x from fun x hx => by
        obtain ⟨j, hj, rfl⟩ := List.getElem_of_mem hx
        exact HT.out j hj (by omega))
      by_cases h8 : l.length ≤ 8
      · have q8 : (l.length : Int) ≤ 8 := by omega
        have H8 := Lib.hid h8
        clear h8
        go_wp2
        go_ret
        exact ⟨⟨_, rfl, fun _ => ⟨H8.out, HA.out⟩⟩, HB.out⟩
      · have q8 : decide ((l.length : Int) ≤ 8) = false := by simp; omega
        clear h8
        go_wp2
        go_ret
        exact ⟨⟨_, rfl, fun h => by cases h⟩, HB.out⟩
end Go.Proofs.YtifcelebfagjbaaGreatDoor
