/-
  Layer 14 (group): slices.Contains, Insert$1, slices.IndexFunc at it, Insert.
-/
import Derived.Test.YtffpnbipacgidaaGrpM
namespace Go.Proofs.Ytffpnbipacgidaa
open Go.RowKit Go.Tw Go.Tw.Ord Go.Tw.Grp Go.Sort
set_option maxRecDepth 100000 in
set_option maxHeartbeats 4000000 in
theorem contains_any (l : List Seen) (s : Seen) (v : Value) (w : World) (h : SlIs tSeen (· < w.heap.size) w v l) :
    Calls Try.prog 37 #[v, .agg (sCells s).toArray] w fun e w' => e = .returned (.bool (l.any (fun x => s == x))) ∧ GrB w w' := by
  obtain ⟨ao, cp, _, _, rfl, -, -, -⟩ := id h
  have n0 : SBox (w.alloc (.cells (sCells s).toArray 31)) w.heap.size s := heap_alloc_new _ _
  have hb0 : GrB w (w.alloc (.cells (sCells s).toArray 31)) := (GrB.refl w).alloc _
  have ld := n0.load
  have h2 := SlIs.step h hb0.below
  have HI := Lib.hid (index_any l s _ _ h2)
  have hneg := @idxS_neg l s
  obtain ⟨A, hA⟩ : ∃ A, (sCells s).toArray = A := ⟨_, rfl⟩
  rw [hA] at ld hb0 HI ⊢
  have HB0 := Lib.hid hb0
  generalize idxS l s = z at hneg HI
  have HNE := Lib.hid hneg
  clear n0 hb0 hA h h2 hneg
  go_enter Try.func37, Try.ntmps37
  go_wp2_with (first
    | (refine wpList_loadA _ rfl 31 rfl Try.isAgg31 Try.sizeOf31 rfl (by with_reducible assumption) ?_)
    | (go_at_call 51
       refine HI.out.mono ?_
       rintro e w1 ⟨rfl, hg1⟩
       have HG1 := Lib.hid hg1
       clear hg1))
  go_ret
  exact ⟨ret_bool HNE.out.symm, HB0.out.trans HG1.out⟩
set_option maxRecDepth 100000 in
set_option maxHeartbeats 4000000 in
theorem ins1_any (l : List Seen) (s : Seen) (bs : Nat) (v : Value) (w : World) (h : SlIs tSeen (· < w.heap.size) w v l) (hs : SBox w bs s) :
    Calls Try.prog 36 #[v, .pointer (some ⟨bs, 0, none⟩)] w fun e w' => e = .returned (.bool (l.any (fun x => s == x))) ∧ GrB w w' := by
  obtain ⟨ao, cp, _, _, rfl, -, -, -⟩ := id h
  have ld := hs.load
  have HI := Lib.hid (contains_any l s _ _ h)
  obtain ⟨A, hA⟩ : ∃ A, (sCells s).toArray = A := ⟨_, rfl⟩
  rw [hA] at ld HI
  generalize l.any (fun x => s == x) = z at HI ⊢
  clear hA h hs
  go_enter Try.func36, Try.ntmps36
  go_wp2_with (first
    | (refine wpList_loadA _ rfl 31 rfl Try.isAgg31 Try.sizeOf31 rfl (by with_reducible assumption) ?_)
    | (go_at_call 37
       refine HI.out.mono ?_
       rintro e w1 ⟨rfl, hg1⟩
       have HG1 := Lib.hid hg1
       clear hg1))
  go_ret
  exact ⟨rfl, HG1.out⟩
/-- the first frame that holds s -/
def idxF (l : List (List Seen)) (s : Seen) : Int := match l.findIdx? (fun f => f.any fun x => s == x) with
  | some i => i
  | none => -1
set_option maxRecDepth 100000 in
set_option maxHeartbeats 4000000 in
theorem indexF_any (l : List (List Seen)) (s : Seen) (bs : Nat) (v : Value) (w : World) (h : SlIs tFrm (· < w.heap.size) w v l) (hs : SBox w bs s) :
    Calls Try.prog 35 #[v, .func (.func 36) #[] #[.pointer (some ⟨bs, 0, none⟩)]] w fun e w' => e = .returned (.int .i64 (idxF l s)) ∧ GrB w w' := by
  obtain ⟨ao, cp, b, o, rfl, q1, q2, ho⟩ := frm_row h
  unfold maxLen at q2
  have HO := Lib.hid ho
  have HSB := Lib.hid hs
  clear h ho hs
  go_enter Try.func35, Try.ntmps35
  go_wp2
  go_loopg [8] l.length (fun gx i wr => ∃ k : Nat, k + gx = l.length ∧ i = .int .i64 k ∧ Hid (∀ j (hj : j < l.length), j < k → (l[j].any fun x => s == x) = false) ∧ GrB w wr)
  case atStart => exact ⟨0, by omega, rfl, Lib.hid (fun j _ h => by omega), GrB.refl _⟩
  case round =>
    obtain ⟨k, hk, rfl, HT, hb⟩ := hrel
    by_cases hlt : k < l.length
    · obtain ⟨rfl, -, hbk, hv, hc, hs⟩ := HO.out wr (.of_below hb.below) k hlt
      have HB := Lib.hid hb
      have k0 : (0 : Int) ≤ (k : Int) := by omega
      have k1 : (k : Int) < (l.length : Int) := by omega
      have HG1 := Lib.hid (show ∀ j (hj : j < l.length), j = k → l[j] = l[k] by rintro j hj rfl; rfl)
      obtain ⟨a1, c1, _, _, rfl, -, -, -⟩ := id hs
      generalize hy : l[k] = y at HG1 hc hs
      have HS := Lib.hid (sl_gr hs hb (GrB.refl wr))
      obtain ⟨cl, hcl⟩ : ∃ c, (y.any fun x => s == x) = c := ⟨_, rfl⟩
      have HCL := Lib.hid hcl
      have HI := Lib.hid (ins1_any y s bs _ wr HS.out (HSB.out.step hb.below))
      rw [hcl] at HI
      clear hs hb hbk hcl hy
      cases cl with
      | false =>
        go_wp2_with (go_at_call 36; refine HI.out.mono ?_; rintro e w1 ⟨rfl, hg1⟩; have HGQ := Lib.hid hg1; clear hg1)
        go_roundg (l.length - (k + 1))
        case measure => omega
        case rel => exact ⟨k + 1, by omega, by go_num, Lib.hid (fun j hj h => by
          by_cases e : j = k
          · rw [HG1.out j hj e]; exact HCL.out
          · exact HT.out j hj (by omega)), HB.out.trans HGQ.out⟩
      | true =>
        go_wp2_with (go_at_call 36; refine HI.out.mono ?_; rintro e w1 ⟨rfl, hg1⟩; have HGQ := Lib.hid hg1; clear hg1)
        go_ret
        refine ⟨ret_int ?_, HB.out.trans HGQ.out⟩
        have : l.findIdx? (fun f => f.any fun x => s == x) = some k := by
          rw [List.findIdx?_eq_some_iff_getElem]
          exact ⟨hlt, by rw [HG1.out k hlt rfl]; exact HCL.out, fun j hj => by rw [HT.out j (by omega) hj]; simp⟩
        unfold idxF
        rw [this]
    · obtain rfl : k = l.length := by omega
      have hkl : ¬ (l.length : Int) < (l.length : Int) := by omega
      have HB := Lib.hid hb
      clear hlt hk hb
      go_wp2
      go_ret
      refine ⟨ret_int ?_, HB.out⟩
      have : l.findIdx? (fun f => f.any fun x => s == x) = none := by
        rw [List.findIdx?_eq_none_iff]
        intro x hx
        obtain ⟨j, hj, rfl⟩ := List.getElem_of_mem hx
        exact HT.out j hj hj
      unfold idxF
      rw [this]
end Go.Proofs.Ytffpnbipacgidaa
