/-
  Layer 37 (post): the laws' right, config; the reference's One.
-/
import Derived.Test.YtifcelebfagjbaaGreatDoorPoRx
namespace Go.Proofs.YtifcelebfagjbaaGreatDoor
open Go.RowKit Go.Tw Go.Tw.Ord Go.Tw.Po Go.Sort
def RtB (l : List Acc) (e : Ending) : Prop := ∃ b, e = .returned (.bool b) ∧ (b = true → l.length ≤ 6 ∧ CfOk l)
set_option maxRecDepth 100000 in
set_option maxHeartbeats 2000000 in
theorem right_any (l : List Acc) (A : Array Value) (va : Value) (w : World) (hA : CfgA A va) (h : SlIs (tAcc 138) (· < w.heap.size) w va l) (hp : ∀ a ∈ l, PltOk a.ow) :
    Calls Tryz.prog 9 #[.agg A] w fun e w' => RtB l e ∧ Below w.heap.size w w' := by
  have n0 := heap_alloc_new w (.cells A 46)
  have HB0 := Lib.hid (bl_alloc (Below.refl w.heap.size w) (.cells A 46))
  obtain ⟨ao, cap, bi, off, rfl, h1, h2, ho⟩ := acc_open h
  unfold maxLen at h2
  have HO := Lib.hid ho
  have H := Lib.hid h
  have HP := Lib.hid hp
  have HA := Lib.hid hA
  have HN := Lib.hid n0
  have c17 := cell_of_row _ _ 17 _ _ _ n0
  rw [hA.acc] at c17
  clear h ho hp hA n0
  go_enter Tryz.func9, Tryz.ntmps9
  by_cases h6 : 6 < l.length
  · have q6 : (6 : Int) < (l.length : Int) := by omega
    clear h6
    go_wp2
    go_ret
    exact ⟨⟨_, rfl, fun h => by cases h⟩, HB0.out⟩
  have q6 : decide ((6 : Int) < (l.length : Int)) = false := by simp; omega
  have HCA := Lib.hid (checkAll_any l (.slice ao l.length cap) _ (H.out.step HB0.out) (by omega) HP.out)
  go_wp2_with (fail)
  with_reducible refine HCA.out.mono ?_
  clear HCA
  rintro r w2 ⟨⟨n, rfl, hn0⟩, hb2⟩
  have HN0 := Lib.hid hn0
  have HB2 := Lib.hid (bl_trans HB0.out hb2)
  have n2 := (hb2.block w.heap.size (by simp)).trans HN.out
  clear hn0 hb2 c17
  have c17 := cell_of_row _ _ 17 _ _ _ n2
  rw [HA.out.acc] at c17
  clear n2
  by_cases hnz : n = 0
  case neg =>
    have q1 : (n != 0) = true := by simpa using hnz
    clear hnz
    go_wp2
    go_ret
    exact ⟨⟨_, rfl, fun h => by cases h⟩, HB2.out⟩
  subst hnz
  have HCF := Lib.hid (HN0.out (by trivial))
  go_wp2
  go_loopg [3] l.length (fun g i wr => ∃ k : Nat, k + g = l.length ∧ i = .int .i64 k ∧ wr = w2)
  case atStart => exact ⟨0, by omega, rfl, rfl⟩
  case round =>
    obtain ⟨k, hk, rfl, rfl⟩ := hrel
    by_cases hlt : k < l.length
    · obtain ⟨rfl, -, hbi, -, hv, hsl, e0, e1, e2, e3, -⟩ := HO.out wr (.of_below HB2.out) k hlt
      have k0 : (0 : Int) ≤ (k : Int) := by omega
      have k1 : (k : Int) < (l.length : Int) := by omega
      obtain ⟨ha, hn, hc, hve⟩ : ∃ a n c, hv = .slice a n c := by
        obtain ⟨a, c, _, _, e, -⟩ := hsl
        exact ⟨a, _, c, e⟩
      subst hve
      clear hsl
      by_cases h6 : 6 < hn
      · have q7 : (6 : Int) < (hn : Int) := by omega
        clear h6
        go_wp2
        go_ret
        exact ⟨⟨_, rfl, fun h => by cases h⟩, HB2.out⟩
      · have q7 : decide ((6 : Int) < (hn : Int)) = false := by simp; omega
        clear h6
        go_wp2
        go_roundg (l.length - (k + 1))
        case measure => omega
        case rel => exact ⟨k + 1, by omega, by go_num, rfl⟩
    · have hkd : decide ((k : Int) < (l.length : Int)) = false := by simp; omega
      have H6 := Lib.hid (show l.length ≤ 6 by omega)
      go_wp2
      go_ret
      exact ⟨⟨_, rfl, fun _ => ⟨H6.out, HCF.out⟩⟩, HB2.out⟩
set_option maxRecDepth 100000 in
set_option maxHeartbeats 4000000 in
theorem config_any (A : Array Value) (ao : Option Addr) (n c : Nat) (w : World) (hA : CfgA A (.slice ao n c)) :
    Calls Tryz.prog 13 #[.agg A] w fun e w' => e = .returned (.agg (zCfg (.slice ao n c))) ∧ Below w.heap.size w w' := by
  have n0 := alloc2_0 w (.cells A 46) (.cells (zCfg (.slice none 0 0)) 46)
  have n1 := alloc2_1 w (.cells A 46) (.cells (zCfg (.slice none 0 0)) 46)
  have HB0 := Lib.hid (bl_alloc (bl_alloc (Below.refl w.heap.size w) (.cells A 46)) (.cells (zCfg (.slice none 0 0)) 46))
  have c17 := cell_of_row _ _ 17 _ _ _ n0
  rw [hA.acc] at c17
  go_enter Tryz.func13, Tryz.ntmps13
  go_upto_region 1 with (fail)
  have hnn : (w.alloc (.cells A 46)).alloc (.cells (zCfg (.slice none 0 0)) 46) = _ := rfl
  obtain ⟨w0, hw0⟩ : ∃ w0, (w.alloc (.cells A 46)).alloc (.cells (zCfg (.slice none 0 0)) 46) = w0 := ⟨_, rfl⟩
  rw [hw0] at n1 HB0 c17
  have hw0' : (w.alloc (.cells A 46)).alloc (.cells #[.slice none 0 0, .slice none 0 0, .slice none 0 0, .slice none 0 0, .slice none 0 0, .slice none 0 0, .int .i64 0, .int .i64 0, .slice none 0 0, .int .i64 0, .slice none 0 0, .slice none 0 0, .slice none 0 0, .slice none 0 0, .slice none 0 0, .slice none 0 0, .slice none 0 0, .slice none 0 0, .slice none 0 0, .slice none 0 0, .slice none 0 0, .slice none 0 0, .int .i64 0, .slice none 0 0, .string ⟨#[]⟩] 46) = w0 := hw0
  rw [hw0']
  clear hnn hw0 hw0' n0
  have HBW := HB0
  have hlz : w.heap.size ≤ w0.heap.size := HB0.out.size
  go_wp2_with (refine wpList_storeA (.tmp 2) (.tmp 5) rfl 46 rfl rfl (cur := zCfg (.slice none 0 0)) (n := 25) (g := w.heap.size + 1) (k := 0) (t2 := 46) Tryz.sizeOf46 rfl (by simp [Value.oneCell']) rfl rfl n1 (by decide) ?_)
  have g5 : (w0.setRow (w.heap.size + 1) (zCfg (.slice ao n c))).heap[w.heap.size + 1]? = some (.cells (zCfg (.slice ao n c)) 46 (0, 0)) := setRow_heap _ _ _ _ _ _ n1
  have b5 : Below w.heap.size w (w0.setRow (w.heap.size + 1) (zCfg (.slice ao n c))) := below_setRow HB0.out hlz (by omega)
  refine bodyPost_ret (v := .agg (zCfg (.slice ao n c))) ?_ rfl ⟨rfl, b5⟩
  change Sem.run _ (results _ _) (w0.setRow (w.heap.size + 1) (zCfg (.slice ao n c))) = .ok _ (w0.setRow (w.heap.size + 1) (zCfg (.slice ao n c)))
  exact results_cell_row Tryz.results13 _ _ (w.heap.size + 1) 46 (zCfg (.slice ao n c)) (0, 0) _ rfl g5 Tryz.underlying46 rfl (by kernel_rfl)
set_option maxHeartbeats 1000000 in
theorem one_any (x : Ent) (v1 v2 : Value) (w : World) (h1 : SlIs tSI (· < w.heap.size) w v1 x.ps) (h2 : SlIs tSI (· < w.heap.size) w v2 x.ps) :
    Calls Tryz.prog 15 #[.agg #[.string x.key, .int .i64 x.tm, v1], .agg #[.string x.key, .int .i64 x.tm, v2]] w fun e w' => e = .returned (.bool true) ∧ Below w.heap.size w w' := by
  have n0 := alloc2_0 w (.cells #[.string x.key, .int .i64 x.tm, v1] 56) (.cells #[.string x.key, .int .i64 x.tm, v2] 56)
  have n1 := alloc2_1 w (.cells #[.string x.key, .int .i64 x.tm, v1] 56) (.cells #[.string x.key, .int .i64 x.tm, v2] 56)
  have HB0 := Lib.hid (bl_alloc (bl_alloc (Below.refl w.heap.size w) (.cells #[.string x.key, .int .i64 x.tm, v1] 56)) (.cells #[.string x.key, .int .i64 x.tm, v2] 56))
  obtain ⟨x0, x1, x2, -⟩ := blk3 n0
  obtain ⟨y0, y1, y2, -⟩ := blk3 n1
  have HS := Lib.hid (sameE_any x v1 v2 _ (h1.step HB0.out) (h2.step HB0.out))
  obtain ⟨a1, c1, _, _, rfl, -⟩ := id h1
  obtain ⟨a2, c2, _, _, rfl, -⟩ := id h2
  clear h1 h2 n0 n1
  go_enter Tryz.func15, Tryz.ntmps15
  go_wp2_with (fail)
  with_reducible refine HS.out.mono ?_
  rintro r w2 ⟨rfl, hb2⟩
  have HB2 := Lib.hid (bl_trans HB0.out hb2)
  clear hb2
  go_wp2
  go_ret
  exact ⟨rfl, HB2.out⟩
end Go.Proofs.YtifcelebfagjbaaGreatDoor
