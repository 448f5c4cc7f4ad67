/-
  Layer 14 (group): Touch, of the program and of the reference.
-/
import Derived.Test.YtffpnbipacgidaaGrpN2
namespace Go.Proofs.Ytffpnbipacgidaa
open Go.RowKit Go.Tw Go.Tw.Ord Go.Tw.Grp Go.Sort
set_option maxRecDepth 100000 in
set_option maxHeartbeats 2000000 in
theorem touch1_any (x s : Seen) (g : Int) (bs bg : Nat) (w : World) (hs : SBox w bs s) (hg : w.cell? ⟨bg, 0, none⟩ = some (.int .i64 g)) (hx : SeenOk x) (hsk : SeenOk s) (hgk : i64ok g) :
    Calls Try.prog 42 #[.agg (sCells x).toArray, .pointer (some ⟨bs, 0, none⟩), .pointer (some ⟨bg, 0, none⟩)] w fun e w' => e = .returned (.bool (closeC g x s)) ∧ GrB w w' := by
  have n0 : SBox (w.alloc (.cells (sCells x).toArray 31)) w.heap.size x := heap_alloc_new _ _
  have hb0 : GrB w (w.alloc (.cells (sCells x).toArray 31)) := (GrB.refl w).alloc _
  have ld := n0.load
  have ld2 := (hs.step hb0.below).load
  have cg := (hb0.below.cell (p := ⟨bg, 0, none⟩) (lt_of_cell hg)).trans hg
  have HC := Lib.hid (fun W => close_any x s g W hx hsk hgk)
  obtain ⟨cl, hcl⟩ : ∃ c, closeC g x s = c := ⟨_, rfl⟩
  obtain ⟨A, hA⟩ : ∃ A, (sCells x).toArray = A := ⟨_, rfl⟩
  obtain ⟨B, hB⟩ : ∃ A, (sCells s).toArray = A := ⟨_, rfl⟩
  rw [hA] at ld ld2 cg hb0 HC ⊢
  rw [hB] at ld2 HC
  rw [hcl] at HC ⊢
  have HB0 := Lib.hid hb0
  clear hA hB hcl hb0 n0 hs hg hx hsk hgk
  go_enter Try.func42, Try.ntmps42
  go_wp2_with (first
    | (refine wpList_loadA _ rfl 31 rfl Try.isAgg31 Try.sizeOf31 rfl (by with_reducible assumption) ?_)
    | (go_at_call 43
       refine (HC.out _).mono ?_
       rintro e w1 ⟨rfl, hg1⟩
       have HG1 := Lib.hid hg1
       clear hg1))
  go_ret
  exact ⟨rfl, HB0.out.trans HG1.out⟩
def tchI (g : Int) (l : List Seen) (s : Seen) : Int := match l.findIdx? (fun x => closeC g x s) with
  | some i => i
  | none => -1
theorem tchI_pos (g : Int) (l : List Seen) (s : Seen) : decide (tchI g l s ≥ 0) = l.any (fun x => closeC g x s) := by
  unfold tchI
  cases e : l.findIdx? (fun x => closeC g x s) with
  | some i =>
    obtain ⟨hi, h1, -⟩ := List.findIdx?_eq_some_iff_getElem.1 e
    rw [List.any_eq_true.2 ⟨_, List.getElem_mem hi, h1⟩, decide_eq_true_eq]
    show (i : Int) ≥ 0
    omega
  | none =>
    rw [List.findIdx?_eq_none_iff] at e
    symm
    rw [show l.any (fun x => closeC g x s) = false from List.any_eq_false.2 fun x hx => by rw [e x hx]; simp]
    rfl
set_option maxRecDepth 100000 in
set_option maxHeartbeats 4000000 in
theorem indexT_any (l : List Seen) (s : Seen) (g : Int) (bs bg : Nat) (v : Value) (w : World) (h : SlIs tSeen (· < w.heap.size) w v l) (hs : SBox w bs s) (hg : w.cell? ⟨bg, 0, none⟩ = some (.int .i64 g)) (hsk : SeenOk s) (hgk : i64ok g) :
    Calls Try.prog 54 #[v, .func (.func 42) #[] #[.pointer (some ⟨bs, 0, none⟩), .pointer (some ⟨bg, 0, none⟩)]] w fun e w' => e = .returned (.int .i64 (tchI g l s)) ∧ GrB w w' := by
  obtain ⟨ao, cp, b, o, rfl, q1, q2, ho⟩ := seen_row h
  unfold maxLen at q2
  have HO := Lib.hid ho
  have HSB := Lib.hid hs
  have HGB := Lib.hid hg
  have HSK := Lib.hid hsk
  have HGK := Lib.hid hgk
  clear h ho hs hg hsk hgk
  go_enter Try.func54, Try.ntmps54
  go_wp2
  go_loopg [8] l.length (fun gx i wr => ∃ k : Nat, k + gx = l.length ∧ i = .int .i64 k ∧ Hid (∀ j (hj : j < l.length), j < k → closeC g l[j] s = false) ∧ GrB w wr)
  case atStart => exact ⟨0, by omega, rfl, Lib.hid (fun j _ h => by omega), GrB.refl _⟩
  case round =>
    obtain ⟨k, hk, rfl, HT, hb⟩ := hrel
    by_cases hlt : k < l.length
    · obtain ⟨rfl, -, hbk, hok, hc⟩ := HO.out wr (.of_below hb.below) k hlt
      have HB := Lib.hid hb
      have k0 : (0 : Int) ≤ (k : Int) := by omega
      have k1 : (k : Int) < (l.length : Int) := by omega
      have HG1 := Lib.hid (show ∀ j (hj : j < l.length), j = k → l[j] = l[k] by rintro j hj rfl; rfl)
      generalize l[k] = y at HG1 hc hok
      have ld := load_seen (x := y) Try.prog hc
      obtain ⟨cl, hcl⟩ : ∃ c, closeC g y s = c := ⟨_, rfl⟩
      have HCL := Lib.hid hcl
      have HI := Lib.hid (touch1_any y s g bs bg wr (HSB.out.step hb.below) ((hb.below.cell (p := ⟨bg, 0, none⟩) (lt_of_cell HGB.out)).trans HGB.out) hok HSK.out HGK.out)
      obtain ⟨A, hA⟩ : ∃ A, (sCells y).toArray = A := ⟨_, rfl⟩
      rw [hA] at ld HI
      rw [hcl] at HI
      clear hb hbk hcl hc hok hA
      cases cl with
      | false =>
        go_wp2_with (first
          | (refine wpList_loadA _ rfl 31 rfl Try.isAgg31 Try.sizeOf31 rfl (by with_reducible assumption) ?_)
          | (go_at_call 42; refine HI.out.mono ?_; rintro e w1 ⟨rfl, hg1⟩; have HGQ := Lib.hid hg1; clear hg1))
        go_roundg (l.length - (k + 1))
        case measure => omega
        case rel => exact ⟨k + 1, by omega, by go_num, Lib.hid (fun j hj h => by
          by_cases e : j = k
          · rw [HG1.out j hj e]; exact HCL.out
          · exact HT.out j hj (by omega)), HB.out.trans HGQ.out⟩
      | true =>
        go_wp2_with (first
          | (refine wpList_loadA _ rfl 31 rfl Try.isAgg31 Try.sizeOf31 rfl (by with_reducible assumption) ?_)
          | (go_at_call 42; refine HI.out.mono ?_; rintro e w1 ⟨rfl, hg1⟩; have HGQ := Lib.hid hg1; clear hg1))
        go_ret
        refine ⟨ret_int ?_, HB.out.trans HGQ.out⟩
        have : l.findIdx? (fun x => closeC g x s) = some k := by
          rw [List.findIdx?_eq_some_iff_getElem]
          exact ⟨hlt, by rw [HG1.out k hlt rfl]; exact HCL.out, fun j hj => by rw [HT.out j (by omega) hj]; simp⟩
        unfold tchI
        rw [this]
    · obtain rfl : k = l.length := by omega
      have hkl : ¬ (l.length : Int) < (l.length : Int) := by omega
      have HB := Lib.hid hb
      clear hlt hk hb
      go_wp2
      go_ret
      refine ⟨ret_int ?_, HB.out⟩
      have : l.findIdx? (fun x => closeC g x s) = none := by
        rw [List.findIdx?_eq_none_iff]
        intro x hx
        obtain ⟨j, hj, rfl⟩ := List.getElem_of_mem hx
        exact HT.out j hj hj
      unfold tchI
      rw [this]
set_option maxRecDepth 100000 in
set_option maxHeartbeats 2000000 in
theorem containsT_any (l : List Seen) (s : Seen) (g : Int) (bs bg : Nat) (v : Value) (w : World) (h : SlIs tSeen (· < w.heap.size) w v l) (hs : SBox w bs s) (hg : w.cell? ⟨bg, 0, none⟩ = some (.int .i64 g)) (hsk : SeenOk s) (hgk : i64ok g) :
    Calls Try.prog 41 #[v, .func (.func 42) #[] #[.pointer (some ⟨bs, 0, none⟩), .pointer (some ⟨bg, 0, none⟩)]] w fun e w' => e = .returned (.bool (l.any fun x => closeC g x s)) ∧ GrB w w' := by
  obtain ⟨ao, cp, _, _, rfl, -, -, -⟩ := id h
  have HI := Lib.hid (indexT_any l s g bs bg _ w h hs hg hsk hgk)
  have HP := Lib.hid (tchI_pos g l s)
  generalize tchI g l s = z at HI HP
  generalize (l.any fun x => closeC g x s) = c at HP ⊢
  clear h hs hg hsk hgk
  go_enter Try.func41, Try.ntmps41
  go_wp2_with (go_at_call 54
               refine HI.out.mono ?_
               rintro e w1 ⟨rfl, hg1⟩
               have HG1 := Lib.hid hg1
               clear hg1)
  go_ret
  exact ⟨ret_bool HP.out.symm, HG1.out⟩
set_option maxRecDepth 100000 in
set_option maxHeartbeats 2000000 in
theorem touch_any (l : List Seen) (s : Seen) (g : Int) (v : Value) (w : World) (h : SlIs tSeen (· < w.heap.size) w v l) (hsk : SeenOk s) (hgk : i64ok g) :
    Calls Try.prog 26 #[v, .agg (sCells s).toArray, .int .i64 g] w fun e w' => e = .returned (.bool (l.any fun x => closeC g x s)) ∧ GrB w w' := by
  obtain ⟨ao, cp, _, _, rfl, -, -, -⟩ := id h
  have hb : GrB w ((w.alloc (.cells (sCells s).toArray 31)).alloc (.cells #[.int .i64 g] 3)) := ((GrB.refl w).alloc _).alloc _
  have HI := Lib.hid (containsT_any l s g w.heap.size (w.heap.size + 1) _ _ (SlIs.step h hb.below) (alloc2_0 w _ _) (by have := alloc2_1 w (.cells (sCells s).toArray 31) (.cells #[.int .i64 g] 3); exact cell_of_row _ _ 0 _ _ _ this) hsk hgk)
  generalize (l.any fun x => closeC g x s) = c at HI ⊢
  obtain ⟨A, hA⟩ : ∃ A, (sCells s).toArray = A := ⟨_, rfl⟩
  rw [hA] at hb HI ⊢
  have HB := Lib.hid hb
  clear h hsk hgk hA hb
  go_enter Try.func26, Try.ntmps26
  go_wp2_with (go_at_call 41
               refine HI.out.mono ?_
               rintro e w1 ⟨rfl, hg1⟩
               have HG1 := Lib.hid hg1
               clear hg1)
  go_ret
  exact ⟨rfl, HB.out.trans HG1.out⟩
set_option maxRecDepth 100000 in
set_option maxHeartbeats 4000000 in
theorem touchR_any (l : List Seen) (s : Seen) (g : Int) (v : Value) (w : World) (h : SlIs tSeen (· < w.heap.size) w v l) (hsk : SeenOk s) (hgk : i64ok g) :
    Calls Try.prog 27 #[v, .agg (sCells s).toArray, .int .i64 g] w fun e w' => e = .returned (.bool (l.any fun x => closeC g x s)) ∧ GrB w w' := by
  obtain ⟨ao, cp, b, o, rfl, q1, q2, ho⟩ := seen_row h
  unfold maxLen at q2
  have HO := Lib.hid ho
  have n0 : SBox (w.alloc (.cells (sCells s).toArray 31)) w.heap.size s := heap_alloc_new _ _
  have hb0 : GrB w (w.alloc (.cells (sCells s).toArray 31)) := (GrB.refl w).alloc _
  have HSK := Lib.hid hsk
  have HGK := Lib.hid hgk
  obtain ⟨A, hA⟩ : ∃ A, (sCells s).toArray = A := ⟨_, rfl⟩
  rw [hA] at n0 hb0 ⊢
  have HN := Lib.hid n0
  have HB0 := Lib.hid hb0
  have HA := Lib.hid hA
  clear n0 hb0 hA h ho hsk hgk
  go_enter Try.func27, Try.ntmps27
  go_wp2
  go_loopg [7] l.length (fun gx i wr => ∃ k : Nat, k + gx = l.length ∧ i = .int .i64 k ∧ Hid (∀ j (hj : j < l.length), j < k → closeC g l[j] s = false) ∧ GrB (w.alloc (.cells A 31)) wr)
  case atStart => exact ⟨0, by omega, rfl, Lib.hid (fun j _ h => by omega), GrB.refl _⟩
  case round =>
    obtain ⟨k, hk, rfl, HT, hb⟩ := hrel
    by_cases hlt : k < l.length
    · obtain ⟨rfl, -, hbk, hok, hc⟩ := HO.out wr (.of_below (HB0.out.trans hb).below) k hlt
      have HB := Lib.hid hb
      have k0 : (0 : Int) ≤ (k : Int) := by omega
      have k1 : (k : Int) < (l.length : Int) := by omega
      have HG1 := Lib.hid (show ∀ j (hj : j < l.length), j = k → l[j] = l[k] by rintro j hj rfl; rfl)
      generalize hy : l[k] = y at HG1 hc hok
      obtain ⟨B, hB⟩ : ∃ B, (sCells y).toArray = B := ⟨_, rfl⟩
      have LD1 := Lib.hid (show ∀ n os, Sem.run Try.prog (loadCellsFrom ⟨w.heap.size, 0, none⟩ 0 11 #[]) (grow (wr.drewN n) os) = .ok A (grow (wr.drewN n) os) from fun n os => by
        rw [← HA.out]
        exact (HN.out.step (hb.trans ⟨n, os, rfl⟩).below).load)
      have LD2 := Lib.hid (show ∀ n os, Sem.run Try.prog (loadCellsFrom ⟨b, o + k * 11, none⟩ 0 11 #[]) (grow (wr.drewN n) os) = .ok B (grow (wr.drewN n) os) from fun n os => by
        rw [← hB]
        exact load_seen _ fun j hj => ((GrB.below ⟨n, os, rfl⟩).cell (p := ⟨b, o + k * 11 + j, none⟩) (Nat.lt_of_lt_of_le hbk (HB0.out.trans hb).below.size)).trans (hc j hj))
      obtain ⟨cl, hcl⟩ : ∃ c, closeC g y s = c := ⟨_, rfl⟩
      have HCL := Lib.hid hcl
      have HC := Lib.hid (show ∀ n os, Calls Try.prog 31 #[.agg B, .agg A, .int .i64 g] (grow (wr.drewN n) os) fun e w' => e = .returned (.bool cl) ∧ ∃ q os', w' = grow ((grow (wr.drewN n) os).drewN q) os' from fun n os => by
        rw [← hB, ← HA.out, ← hcl]
        exact closeR_any _ _ g _ hok HSK.out HGK.out)
      clear hB hc hok hb hbk hcl hy
      go_upto_region 4 with (fail)
      refine wp_region_quiet_grown (by kernel_rfl) (by kernel_rfl) ?_
      (iterate 3 (quiet_step (fail)))
      refine wpQuiet_step (fun K hK => ?_)
      rw [if_pos (show _ = true by kernel_rfl)]
      refine quiet_loadA (A := B) rfl Try.isAgg31 Try.sizeOf31 rfl (fun w' hw' => ?_) (hK _ ?_)
      · obtain ⟨⟨nq, osq⟩, rfl⟩ := hw'
        exact LD2.out nq osq
      clear hK K
      refine wpQuiet_step (fun K hK => ?_)
      rw [if_pos (show _ = true by kernel_rfl)]
      refine quiet_loadA (A := A) rfl Try.isAgg31 Try.sizeOf31 rfl (fun w' hw' => ?_) (hK _ ?_)
      · obtain ⟨⟨nq, osq⟩, rfl⟩ := hw'
        exact LD1.out nq osq
      clear hK K
      quiet_step (fail)
      quiet_step ((go_at_call 31; with_reducible exact Calls.grown_of (HC.out _ _)))
      refine wpQuiet_nil ?_
      intro _ hw'
      obtain ⟨⟨nq, osq⟩, hw''⟩ := hw'
      subst hw''
      have HGQ := Lib.hid (show GrB wr (grow (wr.drewN nq) osq) from ⟨nq, osq, rfl⟩)
      clear LD1 LD2 HC
      generalize grow (wr.drewN nq) osq = wq at HGQ ⊢
      cases cl with
      | false =>
        go_wp2
        go_roundg (l.length - (k + 1))
        case measure => omega
        case rel => exact ⟨k + 1, by omega, by go_num, Lib.hid (fun j hj h => by
          by_cases e : j = k
          · rw [HG1.out j hj e]; exact HCL.out
          · exact HT.out j hj (by omega)), HB.out.trans HGQ.out⟩
      | true =>
        go_wp2
        go_ret
        refine ⟨ret_bool ?_, HB0.out.trans (HB.out.trans HGQ.out)⟩
        exact List.any_eq_true.2 ⟨_, List.getElem_mem hlt, by rw [HG1.out k hlt rfl]; exact HCL.out⟩
    · have hkl : ¬ (k : Int) < (l.length : Int) := by omega
      have HB := Lib.hid hb
      have HR := Lib.hid (show (l.any fun x => closeC g x s) = false from List.any_eq_false.2 fun x hx => by
        obtain ⟨j, hj, rfl⟩ := List.getElem_of_mem hx
        rw [HT.out j hj (by omega)]
        simp)
      clear hlt hk hb
      go_wp2
      go_ret
      exact ⟨ret_bool HR.out, HB0.out.trans HB.out⟩
end Go.Proofs.Ytffpnbipacgidaa
