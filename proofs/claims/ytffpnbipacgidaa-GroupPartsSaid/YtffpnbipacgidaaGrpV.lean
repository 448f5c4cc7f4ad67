/-
  Layer 14 (group): the law's count.
-/
import Derived.Test.YtffpnbipacgidaaGrpOp
namespace Go.Proofs.Ytffpnbipacgidaa
open Go.RowKit Go.Tw Go.Tw.Ord Go.Tw.Grp Go.Sort
def cntS (l : List Seen) (s : Seen) : Nat := (l.filter fun x => decide (x = s)).length
theorem cntS_snoc (l : List Seen) (x s : Seen) : cntS (l ++ [x]) s = cntS l s + (if x = s then 1 else 0) := by
  unfold cntS
  rw [List.filter_append, List.length_append]
  congr 1
  by_cases h : x = s
  · simp [h]
  · simp [h]
theorem cntS_pos {l : List Seen} {s : Seen} (h : s ∈ l) : 0 < cntS l s := by
  unfold cntS
  exact List.length_pos_iff.2 (fun e => by
    have : s ∈ l.filter fun x => decide (x = s) := by simp [h]
    rw [e] at this
    cases this)
set_option maxRecDepth 100000 in
set_option maxHeartbeats 4000000 in
theorem count_any (l : List Seen) (s : Seen) (v : Value) (w : World) (h : SlIs tSeen (· < w.heap.size) w v l) :
    Calls Try.prog 18 #[v, .agg (sCells s).toArray] w fun e w' => e = .returned (.int .i64 (cntS l s)) ∧ GrB w w' := by
  obtain ⟨ao, cp, b, o, rfl, q1, q2, ho⟩ := seen_row h
  unfold maxLen at q2
  have HO := Lib.hid ho
  clear h ho
  have n0 : SBox (w.alloc (.cells (sCells s).toArray 31)) w.heap.size s := heap_alloc_new _ _
  have hb0 : GrB w (w.alloc (.cells (sCells s).toArray 31)) := (GrB.refl w).alloc _
  obtain ⟨A, hA⟩ : ∃ A, (sCells s).toArray = A := ⟨_, rfl⟩
  rw [hA] at n0 hb0 ⊢
  have HN := Lib.hid n0
  have HB0 := Lib.hid hb0
  have HA := Lib.hid hA
  clear n0 hb0 hA
  go_enter Try.func18, Try.ntmps18
  go_wp2
  go_loopg [5, 6] l.length (fun gx c i wr => ∃ k m : Nat, k + gx = l.length ∧ i = .int .i64 k ∧ c = .int .i64 m ∧ m ≤ k ∧ Hid (m = cntS (l.take k) s) ∧ GrB (w.alloc (.cells A 31)) wr)
  case atStart => exact ⟨0, 0, by omega, rfl, rfl, Nat.le_refl _, Lib.hid (by simp [cntS]), GrB.refl _⟩
  case round =>
    obtain ⟨k, m, hk, rfl, rfl, hmk, HM, hb⟩ := hrel
    by_cases hlt : k < l.length
    · obtain ⟨rfl, -, hbk, hok, hc⟩ := HO.out wr (.of_below (HB0.out.trans hb).below) k hlt
      have HB := Lib.hid hb
      have k0 : (0 : Int) ≤ (k : Int) := by omega
      have k1 : (k : Int) < (l.length : Int) := by omega
      have HT := Lib.hid (show cntS (l.take (k + 1)) s = cntS (l.take k) s + (if l[k] = s then 1 else 0) by rw [List.take_succ_eq_append_getElem hlt, cntS_snoc])
      generalize hy : l[k] = y at HT hc hok
      obtain ⟨B, hB⟩ : ∃ B, (sCells y).toArray = B := ⟨_, rfl⟩
      have LD1 := Lib.hid (show ∀ n os, Sem.run Try.prog (loadCellsFrom ⟨w.heap.size, 0, none⟩ 0 11 #[]) (grow (wr.drewN n) os) = .ok A (grow (wr.drewN n) os) from fun n os => by
        rw [← HA.out]
        exact (HN.out.step (hb.trans ⟨n, os, rfl⟩).below).load)
      have LD2 := Lib.hid (show ∀ n os, Sem.run Try.prog (loadCellsFrom ⟨b, o + k * 11, none⟩ 0 11 #[]) (grow (wr.drewN n) os) = .ok B (grow (wr.drewN n) os) from fun n os => by
        rw [← hB]
        exact load_seen _ fun j hj => ((GrB.below ⟨n, os, rfl⟩).cell (p := ⟨b, o + k * 11 + j, none⟩) (Nat.lt_of_lt_of_le hbk (HB0.out.trans hb).below.size)).trans (hc j hj))
      have hq := fun w => run_seen_eql y s w
      rw [HA.out, hB] at hq
      obtain ⟨cl, hcl⟩ : ∃ c, decide (y = s) = c := ⟨_, rfl⟩
      rw [hcl] at hq
      have HCL := Lib.hid hcl
      have hz : wrap64 ((m : Int) + 1) = (m : Int) + 1 := by unfold wrap64; omega
      clear hB hc hok hb hbk hcl hy
      go_upto_region 5 with (fail)
      refine wp_region_quiet_grown (by kernel_rfl) (by kernel_rfl) ?_
      (iterate 3 (quiet_step (fail)))
      refine wpQuiet_step (fun K hK => ?_)
      rw [if_pos (show _ = true by kernel_rfl)]
      refine quiet_loadA (A := B) rfl Try.isAgg31 Try.sizeOf31 rfl (fun w' hw' => ?_) (hK _ ?_)
      · obtain ⟨⟨nq, osq⟩, rfl⟩ := hw'
        exact LD2.out nq osq
      clear hK K
      refine wpQuiet_step (fun K hK => ?_)
      rw [if_pos (show _ = true by kernel_rfl)]
      refine quiet_loadA (A := A) rfl Try.isAgg31 Try.sizeOf31 rfl (fun w' hw' => ?_) (hK _ ?_)
      · obtain ⟨⟨nq, osq⟩, rfl⟩ := hw'
        exact LD1.out nq osq
      clear hK K
      refine wpQuiet_step (fun K hK => ?_)
      rw [if_pos (show _ = true by kernel_rfl)]
      refine quiet_binA rfl Try.eqGuardType31 rfl rfl hq (hK _ ?_)
      clear hK K
      refine wpQuiet_nil ?_
      intro _ hw'
      obtain ⟨⟨nq, osq⟩, hw''⟩ := hw'
      subst hw''
      have HGQ := Lib.hid (show GrB wr (grow (wr.drewN nq) osq) from ⟨nq, osq, rfl⟩)
      clear LD1 LD2 hq
      generalize grow (wr.drewN nq) osq = wq at HGQ ⊢
      cases cl with
      | false =>
        go_wp2
        go_roundg (l.length - (k + 1))
        case measure => omega
        case rel => exact ⟨k + 1, m, by omega, by go_num, rfl, by omega, Lib.hid (by rw [HT.out, if_neg (of_decide_eq_false HCL.out), HM.out]; rfl), HB.out.trans HGQ.out⟩
      | true =>
        go_wp2
        go_roundg (l.length - (k + 1))
        case measure => omega
        case rel => exact ⟨k + 1, m + 1, by omega, by go_num, by go_num, by omega, Lib.hid (by rw [HT.out, if_pos (of_decide_eq_true HCL.out), HM.out]), HB.out.trans HGQ.out⟩
    · obtain rfl : k = l.length := by omega
      have hkl : ¬ (l.length : Int) < (l.length : Int) := by omega
      have HB := Lib.hid hb
      rw [List.take_length] at HM
      clear hlt hk hb
      go_wp2
      go_ret
      exact ⟨ret_int (by rw [HM.out]), HB0.out.trans HB.out⟩
end Go.Proofs.Ytffpnbipacgidaa
