/-
  Layer 14 (group): slices.Grow of nothing, slices.Concat.
-/
import Derived.Test.YtffpnbipacgidaaGrpL2
import Derived.Lib.AppendZerosOnto
namespace Go.Proofs.Ytffpnbipacgidaa
open Go.RowKit Go.Tw Go.Tw.Ord Go.Tw.Grp Go.Sort
set_option maxRecDepth 100000 in
set_option maxHeartbeats 4000000 in
theorem grow_any (n : Nat) (w : World) (hn : n ≤ 1000000) :
    Calls Try.prog 50 #[.slice none 0 0, .int .i64 n] w fun e w' => (∃ v', e = .returned v' ∧ OwnSl tSeen 31 w.heap.size w' v' []) ∧ Below w.heap.size w w' := by
  have h1 : ¬ ((n : Int) < 0) := by omega
  have hw : wrap64 ((n : Int) - 0) = (n : Int) := by unfold wrap64; omega
  by_cases h0 : n = 0
  · subst h0
    go_enter Try.func50, Try.ntmps50
    go_wp2_with (fail)
    go_ret
    exact ⟨⟨_, rfl, OwnSl.nil _ _ _ _⟩, Below.refl _ _⟩
  · have h4 : (n : Int) > 0 := by omega
    obtain ⟨und, ⟨i, z, hi, hz, hsize, hby, hzs⟩, -⟩ := slSeen
    have hr := fun ty => Lib.run_append_grow_zeros w 22 3 ty 31 i z .i64 .i64 und Try.underlying3 hi hz none 0 0 [] (run_firstCells_none w.drew i.size 0 0 0) n (by omega) (by rw [hsize]; decide) (by omega) (by omega) (by rw [hby]; omega) (growslice_fits (by omega) (by rw [hby]; omega))
    have hge := grownCap_ge w (0 + n) 0 31
    have hle := grownCap_le_maxLen w (0 + n) 0 31 (by unfold maxLen; omega)
    rw [Nat.zero_add] at hr hge hle
    generalize grownCap w n 0 31 = G at hr hge hle
    have hsz : (([] : List Value).toArray ++ Builtin.zeroCells z.cells n ++ Builtin.zeroCells z.cells (G - n)).size = G * 11 := by
      simp only [Array.size_append, List.size_toArray, List.length_nil, size_zeroCells, hzs]
      rw [Nat.zero_add, ← Nat.add_mul]
      congr 1
      omega
    generalize ([] : List Value).toArray ++ Builtin.zeroCells z.cells n ++ Builtin.zeroCells z.cells (G - n) = A at hr hsz
    have HSZ := Lib.hid hsz
    have HLE := Lib.hid hle
    unfold maxLen at hle
    clear hsz hi hz hsize hby hzs und h0
    go_enter Try.func50, Try.ntmps50
    go_wp2_with (at_builtin; refine Lib.wpList_append_run _ rfl _ _ _ _ rfl _ _ rfl rfl _ _ (hr _) ?_)
    go_ret
    refine ⟨⟨_, rfl, [], ⟨rfl, .inr ⟨w.heap.size, G, A, rfl, Nat.le_refl _, heap_alloc_new w.drew _, Nat.zero_le _, HLE.out, HSZ.out, by simp⟩⟩, trivial⟩, bl_alloc (Below.drew (Below.refl _ _)) _⟩
theorem flat_take {l : List (List Seen)} {k : Nat} (h : k < l.length) : (l.take (k + 1)).flatten = (l.take k).flatten ++ l[k] := by
  rw [List.take_succ_eq_append_getElem h, List.flatten_append]
  simp
theorem flat_le (l : List (List Seen)) (k : Nat) : (l.take k).flatten.length ≤ l.flatten.length := by
  conv => rhs; rw [← List.take_append_drop k l, List.flatten_append, List.length_append]
  omega
set_option maxRecDepth 100000 in
set_option maxHeartbeats 4000000 in
theorem concat_any (l : List (List Seen)) (v : Value) (w : World) (h : SlIs tFrm (· < w.heap.size) w v l) (hl : l.flatten.length ≤ 1000) :
    Calls Try.prog 34 #[v] w fun e w' => (∃ v', e = .returned v' ∧ OwnSl tSeen 31 w.heap.size w' v' l.flatten) ∧ Below w.heap.size w w' := by
  obtain ⟨ao, cp, b, o, rfl, q1, q2, ho⟩ := frm_row h
  unfold maxLen at q2
  have HO := Lib.hid ho
  have HL := Lib.hid hl
  clear h ho hl
  go_enter Try.func34, Try.ntmps34
  go_wp2
  go_loopg [3, 11] l.length (fun gx z i wr => ∃ k m : Nat, k + gx = l.length ∧ i = .int .i64 k ∧ z = .int .i64 m ∧ Hid (m = (l.take k).flatten.length) ∧ w = wr)
  case atStart => exact ⟨0, 0, by omega, rfl, rfl, Lib.hid (by simp), rfl⟩
  case round =>
    obtain ⟨k, m, hk, rfl, rfl, HM, rfl⟩ := hrel
    by_cases hlt : k < l.length
    · obtain ⟨rfl, -, hbk, hv, hc, hs⟩ := HO.out _ (SameOn.refl _ _) k hlt
      have k0 : (0 : Int) ≤ (k : Int) := by omega
      have k1 : (k : Int) < (l.length : Int) := by omega
      have HT := Lib.hid (flat_take hlt)
      have HF := Lib.hid (flat_le l (k + 1))
      obtain ⟨a1, c1, _, _, rfl, -, -, -⟩ := id hs
      generalize l[k] = x at HT hc hs
      obtain ⟨n, hn⟩ : ∃ n, x.length = n := ⟨_, rfl⟩
      rw [hn] at hc
      have hmn : m + n ≤ 1000 := by have := HF.out; have := HL.out; rw [HT.out, List.length_append, ← HM.out, hn] at *; omega
      have hz : wrap64 ((m : Int) + (n : Int)) = (m : Int) + (n : Int) := by unfold wrap64; omega
      have hz2 : ¬ ((m : Int) + (n : Int) < 0) := by omega
      have HN := Lib.hid hn
      clear hn hs hmn
      go_wp2
      go_roundg (l.length - (k + 1))
      case measure => omega
      case rel => exact ⟨k + 1, m + n, by omega, by go_num, by go_num, Lib.hid (by rw [HT.out, List.length_append, HN.out, HM.out]), rfl⟩
    · obtain rfl : k = l.length := by omega
      have hkl : ¬ (l.length : Int) < (l.length : Int) := by omega
      have hm : m ≤ 1000000 := by have := HM.out; rw [List.take_length] at this; have := HL.out; omega
      have HMM := Lib.hid hm
      clear hlt hk hm
      go_wp2_with (go_at_call 50; refine (grow_any m _ HMM.out).mono ?_; rintro e w1 ⟨⟨v1, rfl, ho1⟩, hb1⟩; have HO1 := Lib.hid ho1; have HB1 := Lib.hid hb1; clear ho1 hb1)
      go_loopg [6, 27] l.length (fun gx sv i wr => ∃ k : Nat, k + gx = l.length ∧ i = .int .i64 k ∧ OwnSl tSeen 31 w.heap.size wr sv (l.take k).flatten ∧ Below w.heap.size w wr)
      case atStart => exact ⟨0, by omega, rfl, by simpa using HO1.out, HB1.out⟩
      case round =>
        obtain ⟨k, hk, rfl, hown, hb⟩ := hrel
        have HFE := Lib.hid (show k = l.length → (l.take k).flatten = l.flatten by rintro rfl; rw [List.take_length])
        have HTK := Lib.hid (fun h : k < l.length => flat_take h)
        generalize (l.take k).flatten = F at hown HFE HTK
        obtain ⟨av, cv, rfl, hv1, hv2⟩ := hown.form
        by_cases hlt : k < l.length
        · obtain ⟨rfl, -, hbk, hv, hc, hs⟩ := HO.out wr (.of_below hb) k hlt
          have k0 : (0 : Int) ≤ (k : Int) := by omega
          have k1 : (k : Int) < (l.length : Int) := by omega
          have HT := Lib.hid (HTK.out hlt)
          have HF := Lib.hid (flat_le l (k + 1))
          clear HTK
          obtain ⟨a1, c1, _, _, rfl, -, -, -⟩ := id hs
          generalize l[k] = x at HT hc hs
          have HS := Lib.hid hs
          have HOW := Lib.hid hown
          have HB := Lib.hid hb
          have hlx := hown.own_lt
          have HLX := Lib.hid hlx
          clear hs hown hb hv1 hv2 hlx
          go_wp2_with (at_builtin
                       have hbs := HB.out.size
                       have hln : F.length + x.length ≤ 1000 := by have := HF.out; have := HL.out; rw [HT.out, List.length_append] at *; omega
                       refine wpList_append_sl (.tmp 31) (.tmp 32) rfl 22 rfl slSeen rfl HOW.out rfl HS.out (fun k (hk : k < w.heap.size) => ⟨by omega, fun e => by have := (HLX.out k e.symm).1; omega⟩) (small_bytes (k := 1001) (by omega) (by decide)) (by unfold maxLen; omega) (by omega) ?_
                       intro v7 w7 ho7 hg7 hr7
                       have HO7 := Lib.hid ho7
                       have HB7 := Lib.hid (HB.out.trans (Below.of_grown hg7 (by omega) (fun k' hk' => (HLX.out k' hk').1)))
                       clear ho7 hg7 hr7 hbs hln)
          go_roundg (l.length - (k + 1))
          case measure => omega
          case rel => exact ⟨k + 1, by omega, by go_num, by rw [HT.out]; exact HO7.out, HB7.out⟩
        · obtain rfl : k = l.length := by omega
          have hkl : ¬ (l.length : Int) < (l.length : Int) := by omega
          obtain rfl : F = l.flatten := HFE.out rfl
          have HOW := Lib.hid hown
          have HB := Lib.hid hb
          clear hlt hk hown hb HFE HTK
          obtain ⟨F2, hF2⟩ : ∃ F2, l.flatten = F2 := ⟨_, rfl⟩
          rw [hF2] at HOW ⊢
          have HF2 := Lib.hid hF2
          clear hF2
          go_wp2
          go_ret
          refine ⟨⟨_, rfl, ?_⟩, HB.out⟩
          rw [HF2.out]
          exact HOW.out
end Go.Proofs.Ytffpnbipacgidaa
