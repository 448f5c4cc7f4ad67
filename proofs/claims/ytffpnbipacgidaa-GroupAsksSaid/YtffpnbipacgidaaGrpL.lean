/-
  Layer 14 (group): the reference's Same and SameFrames.
-/
import Derived.Test.YtffpnbipacgidaaGrpK
namespace Go.Proofs.Ytffpnbipacgidaa
open Go.RowKit Go.Tw Go.Tw.Ord Go.Tw.Grp Go.Sort
/-- a comparison of two structs, in a quiet region -/
theorem quiet_binA {P : Program} {o : Oper} {a : Act} {C : World → Prop} {K : Act → Prop} {op : BinOp} {t t2 : TypeId} {x y : Operand} {xs ys : Array Value} {r : Value} (ho : o.op = .binOp op t x y t2) (hg : P.eqGuardType P.depth t = false) (hx : a.eval x = .agg xs) (hy : a.eval y = .agg ys)
    (hr : ∀ w, (binOp op t (.agg xs) (.agg ys)).run P w = .ok r w) (h : K (a.put o.dst r)) : o.quiet P a C K :=
  ⟨r, fun w hw => by
    unfold Oper.quietAt execOp
    simp only [ho, hx, hy, Sem.run_bind, run_eqGuard_agg _ _ _ _ _ _ _ hg, Result.andThen_ok, hr, Sem.run_pure]
    exact ⟨rfl, rfl⟩, h⟩
/-- a list of lists, element by element -/
theorem frm_row {S : Nat → Prop} {w : World} {v : Value} {l : List (List Seen)} (h : SlIs tFrm S w v l) :
    ∃ ao cap b off, v = .slice ao l.length cap ∧ l.length ≤ cap ∧ cap ≤ maxLen ∧ ∀ w', SameOn S w w' → ∀ k (_ : k < l.length), ao = some ⟨b, off, none⟩ ∧ S b ∧ b < w.heap.size ∧
      ∃ hv, w'.cell? ⟨b, off + k, none⟩ = some hv ∧ SlIs tSeen S w' hv l[k] := by
  obtain ⟨ao, cap, b, off, hv, h1, h2, h3⟩ := h.openS
  refine ⟨ao, cap, b, off, hv, h1, h2, fun w' hw k hk => ?_⟩
  obtain ⟨g1, g2, g2', cs, g3, g4⟩ := h3 w' hw k hk
  obtain ⟨hh, rfl, g5⟩ := g4
  have := g3 0 (by decide)
  exact ⟨g1, g2, g2', hh, by simpa [tFrm, Ty.list] using this, g5⟩
set_option maxRecDepth 100000 in
set_option maxHeartbeats 4000000 in
theorem same_any (l1 l2 : List Seen) (v1 v2 : Value) (w : World) (h1 : SlIs tSeen (· < w.heap.size) w v1 l1) (h2 : SlIs tSeen (· < w.heap.size) w v2 l2) :
    Calls Try.prog 21 #[v1, v2] w fun e w' => e = .returned (.bool (decide (l1 = l2))) ∧ GrB w w' := by
  obtain ⟨ao, cp, b, o, rfl, q1, q2, ho⟩ := seen_row h1
  obtain ⟨ao2, cp2, b2, o2, rfl, q3, q4, ho2⟩ := seen_row h2
  unfold maxLen at q2 q4
  have HO := Lib.hid ho
  have HO2 := Lib.hid ho2
  clear h1 h2 ho ho2
  go_enter Try.func21, Try.ntmps21
  by_cases hlen : (l1.length : Int) = (l2.length : Int)
  · have hle : l1.length = l2.length := by omega
    have HLE := Lib.hid hle
    clear hle
    go_wp2
    go_loopg [5] l1.length (fun gx i wr => ∃ k : Nat, k + gx = l1.length ∧ i = .int .i64 k ∧ Hid (l1.take k = l2.take k) ∧ GrB w wr)
    case atStart => exact ⟨0, by omega, rfl, Lib.hid (by simp), GrB.refl _⟩
    case round =>
      obtain ⟨k, hk, rfl, HT, hb⟩ := hrel
      by_cases hlt : k < l1.length
      · have hlt2 : k < l2.length := by have := HLE.out; omega
        obtain ⟨rfl, -, hbk, hok, hc⟩ := HO.out wr (.of_below hb.below) k hlt
        obtain ⟨rfl, -, hbk2, hok2, hc2⟩ := HO2.out wr (.of_below hb.below) k hlt2
        have HB := Lib.hid hb
        have k0 : (0 : Int) ≤ (k : Int) := by omega
        have k1 : (k : Int) < (l1.length : Int) := by omega
        have k2 : (k : Int) < (l2.length : Int) := by omega
        have HT1 := Lib.hid (show l1.take (k + 1) = l1.take k ++ [l1[k]] from List.take_succ_eq_append_getElem hlt)
        have HT2 := Lib.hid (show l2.take (k + 1) = l2.take k ++ [l2[k]] from List.take_succ_eq_append_getElem hlt2)
        have HG1 := Lib.hid (show l1[k]? = some l1[k] by simp [hlt])
        have HG2 := Lib.hid (show l2[k]? = some l2[k] by simp [hlt2])
        generalize l1[k] = x at HT1 HG1 hc hok
        generalize l2[k] = y at HT2 HG2 hc2 hok2
        obtain ⟨A, hA⟩ : ∃ A, (sCells x).toArray = A := ⟨_, rfl⟩
        obtain ⟨B, hB⟩ : ∃ B, (sCells y).toArray = B := ⟨_, rfl⟩
        have LD1 := Lib.hid (show ∀ n os, Sem.run Try.prog (loadCellsFrom ⟨b, o + k * 11, none⟩ 0 11 #[]) (grow (wr.drewN n) os) = .ok A (grow (wr.drewN n) os) from fun n os => by
          rw [← hA]
          exact load_seen _ fun j hj => ((GrB.below ⟨n, os, rfl⟩).cell (p := ⟨b, o + k * 11 + j, none⟩) (Nat.lt_of_lt_of_le hbk hb.below.size)).trans (hc j hj))
        have LD2 := Lib.hid (show ∀ n os, Sem.run Try.prog (loadCellsFrom ⟨b2, o2 + k * 11, none⟩ 0 11 #[]) (grow (wr.drewN n) os) = .ok B (grow (wr.drewN n) os) from fun n os => by
          rw [← hB]
          exact load_seen _ fun j hj => ((GrB.below ⟨n, os, rfl⟩).cell (p := ⟨b2, o2 + k * 11 + j, none⟩) (Nat.lt_of_lt_of_le hbk2 hb.below.size)).trans (hc2 j hj))
        have hq := fun w => run_seen_neq x y w
        rw [hA, hB] at hq
        obtain ⟨cl, hcl⟩ : ∃ c, (!decide (x = y)) = c := ⟨_, rfl⟩
        rw [hcl] at hq
        have HCL := Lib.hid hcl
        clear hA hB hc hc2 hok hok2 hb hbk hbk2 hcl
        go_upto_region 6 with (fail)
        refine wp_region_quiet_grown (by kernel_rfl) (by kernel_rfl) ?_
        (iterate 3 (quiet_step (fail)))
        refine wpQuiet_step (fun K hK => ?_)
        rw [if_pos (show _ = true by kernel_rfl)]
        refine quiet_loadA (A := A) rfl Try.isAgg31 Try.sizeOf31 rfl (fun w' hw' => ?_) (hK _ ?_)
        · obtain ⟨⟨nq, osq⟩, rfl⟩ := hw'
          exact LD1.out nq osq
        clear hK K
        (iterate 3 (quiet_step (fail)))
        refine wpQuiet_step (fun K hK => ?_)
        rw [if_pos (show _ = true by kernel_rfl)]
        refine quiet_loadA (A := B) rfl Try.isAgg31 Try.sizeOf31 rfl (fun w' hw' => ?_) (hK _ ?_)
        · obtain ⟨⟨nq, osq⟩, rfl⟩ := hw'
          exact LD2.out nq osq
        clear hK K
        refine wpQuiet_step (fun K hK => ?_)
        rw [if_pos (show _ = true by kernel_rfl)]
        refine quiet_binA rfl Try.eqGuardType31 rfl rfl hq (hK _ ?_)
        clear hK K
        refine wpQuiet_nil ?_
        intro _ hw'
        obtain ⟨⟨nq, osq⟩, hw''⟩ := hw'
        subst hw''
        have HGQ := Lib.hid (show GrB wr (grow (wr.drewN nq) osq) from ⟨nq, osq, rfl⟩)
        clear LD1 LD2 hq
        generalize grow (wr.drewN nq) osq = wq at HGQ ⊢
        cases cl with
        | false =>
          go_wp2
          go_roundg (l1.length - (k + 1))
          case measure => omega
          case rel => exact ⟨k + 1, by omega, by go_num, Lib.hid (by rw [HT1.out, HT2.out, HT.out]; have := HCL.out; simp at this; rw [this]), HB.out.trans HGQ.out⟩
        | true =>
          go_wp2
          go_ret
          refine ⟨ret_bool ?_, HB.out.trans HGQ.out⟩
          have h := HCL.out
          simp at h
          rw [decide_eq_false_iff_not]
          rintro rfl
          have := HG1.out.symm.trans HG2.out
          exact h (Option.some.inj this)
      · obtain rfl : k = l1.length := by omega
        have hkl : ¬ (l1.length : Int) < (l1.length : Int) := by omega
        have HB := Lib.hid hb
        clear hlt hk hb
        go_wp2
        go_ret
        refine ⟨ret_bool ?_, HB.out⟩
        have h := HT.out
        rw [List.take_length, HLE.out, List.take_length] at h
        simp [h]
  · go_wp2
    go_ret
    refine ⟨ret_bool ?_, GrB.refl _⟩
    rw [decide_eq_false_iff_not]
    rintro rfl
    exact hlen rfl
end Go.Proofs.Ytffpnbipacgidaa
