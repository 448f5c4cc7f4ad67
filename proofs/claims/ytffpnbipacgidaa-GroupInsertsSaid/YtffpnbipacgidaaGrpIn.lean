/-
  Layer 14 (group): the law GroupInserts.
-/
import Derived.Test.YtffpnbipacgidaaGrpIR
import Derived.Test.YtffpnbipacgidaaGrpArg
import Derived.Test.YtffpnbipacgidaaSized
namespace Go.Proofs.Ytffpnbipacgidaa
open Go.RowKit Go.Tw Go.Tw.Ord Go.Tw.Grp Go.Sort Go.ChangeShapes Go.WideShapes
theorem opensFrmsW {e : TypeId} : OpensW Try.prog 24 (((tFrm.sub fun l => l.length ≤ reachBytes).list e).sub fun l => l.length ≤ reachBytes) :=
  opensW_slice Try.underlying24 (by kernel_rfl) (by decide) (of_decide_eq_true (by kernel_rfl)) (opensW_slice (T := tSeen) Try.underlying22 (by kernel_rfl) (by decide) (of_decide_eq_true (by kernel_rfl)) opensSeen.sized)
def manyC (l : List (List Seen)) : Bool := decide (40 < l.length) || decide (40 < l.flatten.length)
set_option maxRecDepth 100000 in
set_option maxHeartbeats 4000000 in
theorem many_any (l : List (List Seen)) (v : Value) (w : World) (h : SlIs tFrm (· < w.heap.size) w v l) (hz : ∀ f ∈ l, f.length ≤ reachBytes) :
    Calls Try.prog 14 #[v] w fun e w' => e = .returned (.bool (manyC l)) ∧ GrB w w' := by
  obtain ⟨ao, cp, b, o, rfl, q1, q2, ho⟩ := frm_row h
  unfold maxLen at q2
  have HO := Lib.hid ho
  have HZ := Lib.hid hz
  clear h ho hz
  go_enter Try.func14, Try.ntmps14
  by_cases hmost : (l.length : Int) > 40
  · go_wp2_with (fail)
    go_ret
    exact ⟨ret_bool (by unfold manyC; rw [decide_eq_true (show 40 < l.length by omega)]; rfl), GrB.refl _⟩
  have HL := Lib.hid (show ¬ 40 < l.length by omega)
  go_wp2_with (fail)
  go_loopg [3, 4] l.length (fun gx z i wr => ∃ k m : Nat, k + gx = l.length ∧ i = .int .i64 k ∧ z = .int .i64 m ∧ Hid (m = (l.take k).flatten.length) ∧ m ≤ 40 ∧ w = wr)
  case atStart => exact ⟨0, 0, by omega, rfl, rfl, Lib.hid (by simp), by omega, rfl⟩
  case round =>
    obtain ⟨k, m, hk, rfl, rfl, HM, hm, rfl⟩ := hrel
    by_cases hlt : k < l.length
    · obtain ⟨rfl, -, hbk, hv, hc, hs⟩ := HO.out _ (SameOn.refl _ _) k hlt
      have k0 : (0 : Int) ≤ (k : Int) := by omega
      have k1 : (k : Int) < (l.length : Int) := by omega
      have HT := Lib.hid (flat_take hlt)
      have hzz := HZ.out _ (List.getElem_mem hlt)
      obtain ⟨a1, c1, _, _, rfl, -, -, -⟩ := id hs
      generalize l[k] = x at HT hc hs hzz
      obtain ⟨n, hn⟩ : ∃ n, x.length = n := ⟨_, rfl⟩
      rw [hn] at hc hzz
      have hrb := reachBytes_lt
      have hn1 : n ≤ 140737488355328 := by omega
      have HN := Lib.hid hn
      clear hn hs hzz hrb
      by_cases hmn : m + n > 40
      · have hz2 : decide ((m : Int) + (n : Int) > 40) = true := by rw [decide_eq_true_eq]; omega
        have hz1 : wrap64 ((m : Int) + (n : Int)) = (m : Int) + (n : Int) := by unfold wrap64; omega
        have hz3 : IntKind.i64.wrap ((m : Int) + (n : Int)) = (m : Int) + (n : Int) := wrap_in (by omega) (by omega)
        go_wp2_with (fail)
        go_ret
        exact ⟨ret_bool (by
          have h1 := flat_le l (k + 1)
          rw [HT.out, List.length_append, ← HM.out, HN.out] at h1
          unfold manyC
          rw [decide_eq_true (show 40 < l.flatten.length by omega), Bool.or_true]), GrB.refl _⟩
      · have hz2 : decide ((m : Int) + (n : Int) > 40) = false := by rw [decide_eq_false_iff_not]; omega
        have hz1 : wrap64 ((m : Int) + (n : Int)) = (m : Int) + (n : Int) := by unfold wrap64; omega
        have hz3 : IntKind.i64.wrap ((m : Int) + (n : Int)) = (m : Int) + (n : Int) := wrap_in (by omega) (by omega)
        go_wp2_with (fail)
        go_roundg (l.length - (k + 1))
        case measure => omega
        case rel => exact ⟨k + 1, m + n, by omega, by go_num, by go_num, Lib.hid (by rw [HT.out, List.length_append, HN.out, HM.out]), by omega, rfl⟩
    · obtain rfl : k = l.length := by omega
      have hkl : ¬ (l.length : Int) < (l.length : Int) := by omega
      rw [List.take_length] at HM
      go_wp2_with (fail)
      go_ret
      exact ⟨ret_bool (by unfold manyC; rw [decide_eq_false HL.out, decide_eq_false (by have := HM.out; omega)]; rfl), GrB.refl _⟩
set_option maxRecDepth 100000 in
set_option maxHeartbeats 4000000 in
theorem inserts_walk : LawWalk Try.prog 4 Try.f4 := by
  intro H enc W base args ds ps hval hA hsz
  rw [Try.params4] at hA hval
  obtain ⟨v0, v1, v2, d0, d1, d2, p0, p1, p2, rfl, rfl, rfl, h0, h1, h2⟩ := trodAll_three hA
  clear hA
  have hv0 := hval 0 24 v0 rfl rfl
  have hv1 := hval 1 31 v1 rfl rfl
  obtain ⟨l, hl0, -⟩ := arg_sliceW (j := 0) Try.underlying24 (opensFrmsW (e := 22)) hv0 h0 hsz rfl rfl
  obtain ⟨hl, hlz⟩ := hl0.ofSub
  obtain ⟨s, A, rfl, hA, hsok⟩ := arg_seenA hv1 h1
  obtain ⟨g, rfl, hg⟩ := arg_int Try.underlying3 (hval 2 _ _ rfl rfl) h2
  clear hval h0 h1 h2 hsz hv0 hv1 hl0
  have n0 : SBox (W.alloc (.cells A 31)) W.heap.size s := by rw [← hA]; exact heap_alloc_new _ _
  obtain ⟨ao, cp, b, o, rfl, q1, q2, -⟩ := frm_row hl
  unfold maxLen at q2
  have HA := Lib.hid hA
  have HX := Lib.hid n0
  have HOK := Lib.hid hsok
  have HLL := Lib.hid hl
  have HLZ := Lib.hid hlz
  have HG := Lib.hid hg
  have hasz : A.size = 11 := by rw [← hA]; rfl
  have h1c := oneA hA
  clear hl hg hsok hA n0 hlz
  go_enter Try.func4, Try.ntmps4
  go_upto_region 1 with (fail)
  have HB0 := Lib.hid (bl_alloc (Below.refl W.heap.size W) (.cells A 31))
  obtain ⟨bx, hbx⟩ : ∃ b, W.heap.size = b := ⟨_, rfl⟩
  have HBX := Lib.hid hbx
  generalize W.alloc (.cells A 31) = w0 at HX HB0 ⊢
  rw [hbx] at HX ⊢
  clear hbx
  have HMN := Lib.hid (many_any l _ w0 (SlIs.step HLL.out HB0.out) HLZ.out)
  obtain ⟨mb, hmb⟩ : ∃ b, manyC l = b := ⟨_, rfl⟩
  rw [hmb] at HMN
  cases mb with
  | true =>
    clear hmb
    go_wp2_with (go_at_call 14
                 refine HMN.out.mono ?_
                 rintro e w1 ⟨rfl, hg1⟩
                 have HG1 := Lib.hid hg1
                 clear hg1)
    go_ret
    exact ⟨rfl, HB0.out.trans (HG1.out.below.mono HB0.out.size)⟩
  | false =>
    have hfl : l.flatten.length < 59 := by
      unfold manyC at hmb
      rw [Bool.or_eq_false_iff] at hmb
      have := of_decide_eq_false hmb.2
      omega
    obtain ⟨R, hR⟩ : ∃ R, framesC g (l.flatten ++ [s]) = R := ⟨_, rfl⟩
    obtain ⟨z, hz⟩ : ∃ z, idxF R s = z := ⟨_, rfl⟩
    have HIN := Lib.hid (fun (w : World) (h : SlIs tFrm (· < w.heap.size) w (.slice ao l.length cp) l) => insert_any l s g _ w h HOK.out hfl HG.out)
    have HIR := Lib.hid (fun (w : World) (h : SlIs tFrm (· < w.heap.size) w (.slice ao l.length cp) l) => insertR_any l s g _ w h HOK.out hfl HG.out)
    rw [hR, hz, HA.out] at HIN HIR
    have hzz : (z == z) = true := by simp
    clear hmb hfl hR hz
    go_wp2_with (first
      | (go_at_call 14
         refine HMN.out.mono ?_
         rintro e w1 ⟨rfl, hg1⟩
         have HB1 := Lib.hid (HB0.out.trans (hg1.below.mono HB0.out.size))
         have HX1 := Lib.hid (HX.out.step hg1.below)
         have ld := HX1.out.load
         rw [HA.out] at ld
         clear hg1)
      | (refine wpList_loadA _ rfl 31 rfl Try.isAgg31 Try.sizeOf31 rfl (by with_reducible assumption) ?_)
      | (go_at_call 15
         refine (HIN.out _ (SlIs.step HLL.out HB1.out)).mono ?_
         rintro e w2 ⟨⟨v2, rfl, hn2⟩, hb2⟩
         obtain ⟨a2, c2, rfl, -⟩ := hn2.form
         have HN2 := Lib.hid hn2.sl'
         have HB2 := Lib.hid (bl_trans HB1.out hb2)
         clear ld
         have ld := (HX1.out.step hb2).load
         rw [HA.out] at ld
         clear hn2 hb2)
      | (go_at_call 16
         refine (HIR.out _ (SlIs.step HLL.out HB2.out)).mono ?_
         rintro e w3 ⟨⟨v3, rfl, hn3⟩, hb3⟩
         obtain ⟨a3, c3, _, _, rfl, -, -, -⟩ := id hn3
         have HN3 := Lib.hid hn3
         have HM3 := Lib.hid (SlIs.step HN2.out hb3)
         have HB3 := Lib.hid (bl_trans HB2.out hb3)
         clear ld hn3 hb3)
      | (go_at_call 10
         refine (sameF_any R R _ _ _ HM3.out HN3.out).mono ?_
         rintro e w4 ⟨rfl, hg4⟩
         have HB4 := Lib.hid (bl_trans HB3.out hg4.below)
         have hdt : decide (R = R) = true := by simp
         rw [hdt]
         clear hg4 hdt)
      | (go_at_call 13
         refine (alive_any _).mono ?_
         rintro e w5 ⟨rfl, hb5⟩
         have HB5 := Lib.hid (bl_trans HB4.out hb5)
         clear hb5))
    go_ret
    exact ⟨rfl, HB5.out⟩
set_option maxRecDepth 100000 in
theorem inserts_lift (os : Os) (started : os.Started) (H : Type) (enc : TypeId × Value → H) :
    ReturnsInHanded {} Try.checked os 4 .any (Rows.groupInsertsSpec.pre6 enc Try.prog Try.f4 Rows.groupInsertsRow.domain false) (Rows.groupInsertsSpec.post enc Try.prog Try.f4 false true false false) :=
  law_lift (C := Try.checked) (s := Rows.groupInsertsSpec) (fn := Try.f4) ⟨rfl, fun H ds h => by
    match ds, h with
    | [a, b, c], _ => exact ⟨rfl, rfl, rfl⟩⟩ rfl Try.underlying4 (by kernel_rfl) laid0 own0 started (by kernel_rfl) Try.func4
    (ChangeSpec.witness6 (enc := enc) (C := Try.checked) false ⟨#[], #[.slice none 0 0, .agg #[.string ByteArray.empty, .int .i64 0, .int .i64 0, .string ByteArray.empty, .string ByteArray.empty, .int .i64 0, .int .i64 0, .int .i64 0, .string ByteArray.empty, .int .i64 0, .int .i64 0], .int .i64 0], []⟩ 8 (by kernel_rfl) (by kernel_rfl) (by kernel_rfl) (by kernel_rfl)) inserts_walk

/-- THE STATEMENT: GroupInserts. -/
theorem inserts_holds : Rows.GroupInsertsSaid :=
  OpenClaim.holds_of_wide 4 Try.f4 rfl rfl rfl rfl rfl rfl rfl ⟨rfl, rfl, rfl, rfl, rfl⟩ rfl rfl rfl rfl rfl (by kernel_rfl) Try.func4 (by kernel_rfl)
    (of_decide_eq_true (by kernel_rfl)) (by unfold Func.isWrapper; rw [if_neg (of_decide_eq_false (by kernel_rfl))]; exact ⟨rfl, rfl⟩)
    (fun os started H enc _ => inserts_lift os started H enc)
end Go.Proofs.Ytffpnbipacgidaa
