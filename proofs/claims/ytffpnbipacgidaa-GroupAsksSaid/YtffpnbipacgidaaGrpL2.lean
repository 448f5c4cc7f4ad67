/-
  Layer 14 (group): SameFrames; slices.Index, slices.Contains, slices.IndexFunc at Insert's function.
-/
import Derived.Test.YtffpnbipacgidaaGrpL
namespace Go.Proofs.Ytffpnbipacgidaa
open Go.RowKit Go.Tw Go.Tw.Ord Go.Tw.Grp Go.Sort
theorem gr_cell {w wr : World} (hb : GrB w wr) {p : Addr} {v : Value} (hp : p.block < w.heap.size) (h : wr.cell? p = some v) (n : Nat) (os : Array Obj) : (grow (wr.drewN n) os).cell? p = some v :=
  ((GrB.below ⟨n, os, rfl⟩).cell (p := p) (Nat.lt_of_lt_of_le hp hb.below.size)).trans h
theorem sl_gr {α : Type} {T : Ty α} {w wr w2 : World} {v : Value} {l : List α} (h : SlIs T (· < w.heap.size) wr v l) (hb : GrB w wr) (hb2 : GrB wr w2) : SlIs T (· < w2.heap.size) w2 v l :=
  h.keep (fun k hk => Nat.lt_of_lt_of_le hk (Nat.le_trans hb.below.size hb2.below.size)) fun k hk => hb2.below.block k (Nat.lt_of_lt_of_le hk hb.below.size)
set_option maxRecDepth 100000 in
set_option maxHeartbeats 4000000 in
theorem sameF_any (l1 l2 : List (List Seen)) (v1 v2 : Value) (w : World) (h1 : SlIs tFrm (· < w.heap.size) w v1 l1) (h2 : SlIs tFrm (· < w.heap.size) w v2 l2) :
    Calls Try.prog 10 #[v1, v2] w fun e w' => e = .returned (.bool (decide (l1 = l2))) ∧ GrB w w' := by
  obtain ⟨ao, cp, b, o, rfl, q1, q2, ho⟩ := frm_row h1
  obtain ⟨ao2, cp2, b2, o2, rfl, q3, q4, ho2⟩ := frm_row h2
  unfold maxLen at q2 q4
  have HO := Lib.hid ho
  have HO2 := Lib.hid ho2
  clear h1 h2 ho ho2
  go_enter Try.func10, Try.ntmps10
  by_cases hlen : (l1.length : Int) = (l2.length : Int)
  · have hle : l1.length = l2.length := by omega
    have HLE := Lib.hid hle
    clear hle
    go_wp2
    go_loopg [5] l1.length (fun gx i wr => ∃ k : Nat, k + gx = l1.length ∧ i = .int .i64 k ∧ Hid (l1.take k = l2.take k) ∧ GrB w wr)
    case atStart => exact ⟨0, by omega, rfl, Lib.hid (by simp), GrB.refl _⟩
    case round =>
      obtain ⟨k, hk, rfl, HT, hb⟩ := hrel
      by_cases hlt : k < l1.length
      · have hlt2 : k < l2.length := by have := HLE.out; omega
        obtain ⟨rfl, -, hbk, hv, hc, hs⟩ := HO.out wr (.of_below hb.below) k hlt
        obtain ⟨rfl, -, hbk2, hv2, hc2, hs2⟩ := HO2.out wr (.of_below hb.below) k hlt2
        have HB := Lib.hid hb
        have k0 : (0 : Int) ≤ (k : Int) := by omega
        have k1 : (k : Int) < (l1.length : Int) := by omega
        have k2 : (k : Int) < (l2.length : Int) := by omega
        have HT1 := Lib.hid (show l1.take (k + 1) = l1.take k ++ [l1[k]] from List.take_succ_eq_append_getElem hlt)
        have HT2 := Lib.hid (show l2.take (k + 1) = l2.take k ++ [l2[k]] from List.take_succ_eq_append_getElem hlt2)
        have HG1 := Lib.hid (show l1[k]? = some l1[k] by simp [hlt])
        have HG2 := Lib.hid (show l2[k]? = some l2[k] by simp [hlt2])
        generalize l1[k] = x at HT1 HG1 hs
        generalize l2[k] = y at HT2 HG2 hs2
        obtain ⟨a1, c1, _, _, rfl, -, -, -⟩ := id hs
        obtain ⟨a2, c2, _, _, rfl, -, -, -⟩ := id hs2
        have d1 := fun n os => gr_cell hb (p := ⟨b, o + k, none⟩) hbk hc n os
        have d2 := fun n os => gr_cell hb (p := ⟨b2, o2 + k, none⟩) hbk2 hc2 n os
        obtain ⟨cl, hcl⟩ : ∃ c, decide (x = y) = c := ⟨_, rfl⟩
        have HS := Lib.hid (show ∀ n os, Calls Try.prog 21 #[.slice a1 x.length c1, .slice a2 y.length c2] (grow (wr.drewN n) os) fun e w' => e = .returned (.bool cl) ∧ ∃ q os', w' = grow ((grow (wr.drewN n) os).drewN q) os' from fun n os => by
          rw [← hcl]
          exact same_any x y _ _ _ (sl_gr hs hb ⟨n, os, rfl⟩) (sl_gr hs2 hb ⟨n, os, rfl⟩))
        have HCL := Lib.hid hcl
        clear hc hc2 hb hbk hbk2 hcl hs hs2
        go_upto_region 6 with (fail)
        refine wp_region_quiet_grown (by kernel_rfl) (by kernel_rfl) ?_
        (repeat (quiet_step ((go_at_call 21; with_reducible exact Calls.grown_of (HS.out _ _)))))
        refine wpQuiet_nil ?_
        intro _ hw'
        obtain ⟨⟨nq, osq⟩, hw''⟩ := hw'
        subst hw''
        have HGQ := Lib.hid (show GrB wr (grow (wr.drewN nq) osq) from ⟨nq, osq, rfl⟩)
        clear d1 d2 HS
        generalize grow (wr.drewN nq) osq = wq at HGQ ⊢
        cases cl with
        | true =>
          go_wp2
          go_roundg (l1.length - (k + 1))
          case measure => omega
          case rel => exact ⟨k + 1, by omega, by go_num, Lib.hid (by rw [HT1.out, HT2.out, HT.out]; have := HCL.out; simp at this; rw [this]), HB.out.trans HGQ.out⟩
        | false =>
          go_wp2
          go_ret
          refine ⟨ret_bool ?_, HB.out.trans HGQ.out⟩
          have h := HCL.out
          simp at h
          rw [decide_eq_false_iff_not]
          rintro rfl
          have := HG1.out.symm.trans HG2.out
          exact h (Option.some.inj this)
      · obtain rfl : k = l1.length := by omega
        have hkl : ¬ (l1.length : Int) < (l1.length : Int) := by omega
        have HB := Lib.hid hb
        clear hlt hk hb
        go_wp2
        go_ret
        refine ⟨ret_bool ?_, HB.out⟩
        have h := HT.out
        rw [List.take_length, HLE.out, List.take_length] at h
        simp [h]
  · go_wp2
    go_ret
    refine ⟨ret_bool ?_, GrB.refl _⟩
    rw [decide_eq_false_iff_not]
    rintro rfl
    exact hlen rfl
/-- where s is first -/
def idxS (l : List Seen) (s : Seen) : Int := match l.findIdx? (fun x => s == x) with
  | some i => i
  | none => -1
set_option maxRecDepth 100000 in
set_option maxHeartbeats 4000000 in
theorem index_any (l : List Seen) (s : Seen) (v : Value) (w : World) (h : SlIs tSeen (· < w.heap.size) w v l) :
    Calls Try.prog 51 #[v, .agg (sCells s).toArray] w fun e w' => e = .returned (.int .i64 (idxS l s)) ∧ GrB w w' := by
  obtain ⟨ao, cp, b, o, rfl, q1, q2, ho⟩ := seen_row h
  unfold maxLen at q2
  have HO := Lib.hid ho
  clear h ho
  have n0 : SBox (w.alloc (.cells (sCells s).toArray 31)) w.heap.size s := heap_alloc_new _ _
  have hb0 : GrB w (w.alloc (.cells (sCells s).toArray 31)) := (GrB.refl w).alloc _
  obtain ⟨A, hA⟩ : ∃ A, (sCells s).toArray = A := ⟨_, rfl⟩
  rw [hA] at n0 hb0 ⊢
  have HN := Lib.hid n0
  have HB0 := Lib.hid hb0
  have HA := Lib.hid hA
  clear n0 hb0 hA
  go_enter Try.func51, Try.ntmps51
  go_wp2
  go_loopg [8] l.length (fun gx i wr => ∃ k : Nat, k + gx = l.length ∧ i = .int .i64 k ∧ Hid (∀ j (hj : j < l.length), j < k → (s == l[j]) = false) ∧ GrB (w.alloc (.cells A 31)) wr)
  case atStart => exact ⟨0, by omega, rfl, Lib.hid (fun j _ h => by omega), GrB.refl _⟩
  case round =>
    obtain ⟨k, hk, rfl, HT, hb⟩ := hrel
    by_cases hlt : k < l.length
    · obtain ⟨rfl, -, hbk, hok, hc⟩ := HO.out wr (.of_below (HB0.out.trans hb).below) k hlt
      have HB := Lib.hid hb
      have k0 : (0 : Int) ≤ (k : Int) := by omega
      have k1 : (k : Int) < (l.length : Int) := by omega
      have HG1 := Lib.hid (show ∀ j (hj : j < l.length), j = k → l[j] = l[k] by rintro j hj rfl; rfl)
      generalize hy : l[k] = y at HG1 hc hok
      obtain ⟨B, hB⟩ : ∃ B, (sCells y).toArray = B := ⟨_, rfl⟩
      have LD1 := Lib.hid (show ∀ n os, Sem.run Try.prog (loadCellsFrom ⟨w.heap.size, 0, none⟩ 0 11 #[]) (grow (wr.drewN n) os) = .ok A (grow (wr.drewN n) os) from fun n os => by
        rw [← HA.out]
        exact (HN.out.step (hb.trans ⟨n, os, rfl⟩).below).load)
      have LD2 := Lib.hid (show ∀ n os, Sem.run Try.prog (loadCellsFrom ⟨b, o + k * 11, none⟩ 0 11 #[]) (grow (wr.drewN n) os) = .ok B (grow (wr.drewN n) os) from fun n os => by
        rw [← hB]
        exact load_seen _ fun j hj => ((GrB.below ⟨n, os, rfl⟩).cell (p := ⟨b, o + k * 11 + j, none⟩) (Nat.lt_of_lt_of_le hbk (HB0.out.trans hb).below.size)).trans (hc j hj))
      have hq := fun w => run_seen_eql s y w
      rw [HA.out, hB] at hq
      obtain ⟨cl, hcl⟩ : ∃ c, decide (s = y) = c := ⟨_, rfl⟩
      rw [hcl] at hq
      have HCL := Lib.hid hcl
      clear hB hc hok hb hbk hcl hy
      go_upto_region 4 with (fail)
      refine wp_region_quiet_grown (by kernel_rfl) (by kernel_rfl) ?_
      refine wpQuiet_step (fun K hK => ?_)
      rw [if_pos (show _ = true by kernel_rfl)]
      refine quiet_loadA (A := A) rfl Try.isAgg31 Try.sizeOf31 rfl (fun w' hw' => ?_) (hK _ ?_)
      · obtain ⟨⟨nq, osq⟩, rfl⟩ := hw'
        exact LD1.out nq osq
      clear hK K
      (iterate 3 (quiet_step (fail)))
      refine wpQuiet_step (fun K hK => ?_)
      rw [if_pos (show _ = true by kernel_rfl)]
      refine quiet_loadA (A := B) rfl Try.isAgg31 Try.sizeOf31 rfl (fun w' hw' => ?_) (hK _ ?_)
      · obtain ⟨⟨nq, osq⟩, rfl⟩ := hw'
        exact LD2.out nq osq
      clear hK K
      refine wpQuiet_step (fun K hK => ?_)
      rw [if_pos (show _ = true by kernel_rfl)]
      refine quiet_binA rfl Try.eqGuardType31 rfl rfl hq (hK _ ?_)
      clear hK K
      refine wpQuiet_nil ?_
      intro _ hw'
      obtain ⟨⟨nq, osq⟩, hw''⟩ := hw'
      subst hw''
      have HGQ := Lib.hid (show GrB wr (grow (wr.drewN nq) osq) from ⟨nq, osq, rfl⟩)
      clear LD1 LD2 hq
      generalize grow (wr.drewN nq) osq = wq at HGQ ⊢
      cases cl with
      | false =>
        go_wp2
        go_roundg (l.length - (k + 1))
        case measure => omega
        case rel => exact ⟨k + 1, by omega, by go_num, Lib.hid (fun j hj h => by
          by_cases e : j = k
          · rw [HG1.out j hj e]; have := HCL.out; simpa using this
          · exact HT.out j hj (by omega)), HB.out.trans HGQ.out⟩
      | true =>
        go_wp2
        go_ret
        refine ⟨ret_int ?_, HB0.out.trans (HB.out.trans HGQ.out)⟩
        have : l.findIdx? (fun x => s == x) = some k := by
          rw [List.findIdx?_eq_some_iff_getElem]
          refine ⟨hlt, by rw [HG1.out k hlt rfl]; have := HCL.out; simpa using this, fun j hj => by rw [HT.out j (by omega) hj]; simp⟩
        unfold idxS
        rw [this]
    · obtain rfl : k = l.length := by omega
      have hkl : ¬ (l.length : Int) < (l.length : Int) := by omega
      have HB := Lib.hid hb
      clear hlt hk hb
      go_wp2
      go_ret
      refine ⟨ret_int ?_, HB0.out.trans HB.out⟩
      have : l.findIdx? (fun x => s == x) = none := by
        rw [List.findIdx?_eq_none_iff]
        intro x hx
        obtain ⟨j, hj, rfl⟩ := List.getElem_of_mem hx
        exact HT.out j hj hj
      unfold idxS
      rw [this]
theorem idxS_neg {l : List Seen} {s : Seen} : decide (idxS l s ≥ 0) = l.any (fun x => s == x) := by
  unfold idxS
  cases h : l.findIdx? (fun x => s == x) with
  | none =>
    rw [List.findIdx?_eq_none_iff] at h
    simp only [ge_iff_le, Int.reduceNeg, Int.reduceLE, decide_false]
    symm
    rw [List.any_eq_false]
    intro x hx
    simpa using h x hx
  | some i =>
    rw [List.findIdx?_eq_some_iff_getElem] at h
    obtain ⟨hi, h1, -⟩ := h
    simp only [ge_iff_le]
    rw [decide_eq_true (by omega)]
    symm
    rw [List.any_eq_true]
    exact ⟨_, List.getElem_mem hi, h1⟩
end Go.Proofs.Ytffpnbipacgidaa
