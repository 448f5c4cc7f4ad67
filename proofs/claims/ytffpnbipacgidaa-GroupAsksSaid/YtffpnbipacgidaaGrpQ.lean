/-
  Layer 14 (group): the law's at, times; Span.
-/
import Derived.Test.YtffpnbipacgidaaGrpN2
namespace Go.Proofs.Ytffpnbipacgidaa
open Go.RowKit Go.Tw Go.Tw.Ord Go.Tw.Grp Go.Sort
/-- a detection of a point, at a time -/
def atC (p : ByteArray) (t : Int) : Seen := ⟨⟨#[100]⟩, t, t, ByteArray.empty, ByteArray.empty, 0, 0, t, p, 1, 1⟩
set_option maxRecDepth 100000 in
set_option maxHeartbeats 2000000 in
theorem at_any (p : ByteArray) (t : Int) (w : World) :
    Calls Try.prog 33 #[.string p, .int .i64 t] w fun e w' => e = .returned (.agg (sCells (atC p t)).toArray) ∧ Below w.heap.size w w' := by
  go_enter Try.func33, Try.ntmps33
  go_wp2_with (fail)
  exact bodyPost_ret (v := .agg (sCells (atC p t)).toArray) (results_cell_row Try.results33 _ _ w.heap.size 31 _ (0, 0) _ rfl (heap_alloc_new _ _) Try.underlying31 rfl (by kernel_rfl)) rfl ⟨rfl, bl_alloc (Below.refl _ _) _⟩
theorem atC_ok {p : ByteArray} {t : Int} (hp : p.size ≤ maxLen) (ht : i64ok t) : SeenOk (atC p t) :=
  ⟨by show (1 : Nat) ≤ maxLen; decide, ht, ht, Nat.zero_le _, Nat.zero_le _, (show i64ok 0 by unfold i64ok; decide), (show i64ok 0 by unfold i64ok; decide), ht, hp, (show i64ok 1 by unfold i64ok; decide), (show i64ok 1 by unfold i64ok; decide)⟩
set_option maxRecDepth 100000 in
set_option maxHeartbeats 4000000 in
theorem times_any (p : ByteArray) (l : List Int) (v : Value) (w : World) (h : SlIs tInt (· < w.heap.size) w v l) (hp : p.size ≤ maxLen) (hl : l.length ≤ 1000) :
    Calls Try.prog 32 #[.string p, v] w fun e w' => (∃ v', e = .returned v' ∧ OwnSl tSeen 31 w.heap.size w' v' (l.map (atC p))) ∧ Below w.heap.size w w' := by
  obtain ⟨ao, cp, b, o, rfl, q1, q2, ho⟩ := h.openS
  unfold maxLen at q2
  have HO := Lib.hid ho
  have HP := Lib.hid hp
  have HL := Lib.hid hl
  clear h ho hp
  go_enter Try.func32, Try.ntmps32
  go_wp2
  go_loopg [5, 6] l.length (fun gx sv i wr => ∃ k : Nat, k + gx = l.length ∧ i = .int .i64 k ∧ OwnSl tSeen 31 w.heap.size wr sv ((l.take k).map (atC p)) ∧ Below w.heap.size w wr)
  case atStart => exact ⟨0, by omega, rfl, OwnSl.nil _ _ _ _, Below.refl _ _⟩
  case round =>
    obtain ⟨k, hk, rfl, hown, hb⟩ := hrel
    have HFE := Lib.hid (show k = l.length → (l.take k).map (atC p) = l.map (atC p) by rintro rfl; rw [List.take_length])
    have HTK := Lib.hid (show ∀ h : k < l.length, (l.take (k + 1)).map (atC p) = (l.take k).map (atC p) ++ [atC p l[k]] from fun h => by rw [List.take_succ_eq_append_getElem h, List.map_append]; rfl)
    have hfl : ((l.take k).map (atC p)).length ≤ 1000 := by simp; omega
    generalize (l.take k).map (atC p) = F at hown HFE HTK hfl
    obtain ⟨av, cv, rfl, hv1, hv2⟩ := hown.form
    have HOW := Lib.hid hown
    have HB := Lib.hid hb
    have HFL := Lib.hid hfl
    by_cases hlt : k < l.length
    · obtain ⟨rfl, -, hbk, cs, hc, hcs, hok⟩ := HO.out wr (.of_below hb) k hlt
      have c0 := hc 0 (by decide)
      rw [hcs] at c0
      have k0 : (0 : Int) ≤ (k : Int) := by omega
      have k1 : (k : Int) < (l.length : Int) := by omega
      have HT := Lib.hid (HTK.out hlt)
      generalize l[k] = z at HT c0 hok
      have HZ := Lib.hid (atC_ok HP.out hok)
      simp only [show tInt.sz = 1 from rfl, Nat.mul_one, Nat.add_zero, List.getElem?_cons_zero] at c0
      obtain ⟨A, hA⟩ : ∃ A, (sCells (atC p z)).toArray = A := ⟨_, rfl⟩
      have HAT := Lib.hid (fun w' => at_any p z w')
      rw [hA] at HAT
      have HA := Lib.hid hA
      have hs : A.size = 11 := by rw [← hA]; rfl
      have h1c := oneA hA
      clear HTK HFE hA hown hb hfl hok hcs hc hv1 hv2
      go_wp2_with (first
        | (go_at_call 33
           refine (HAT.out _).mono ?_
           rintro e w1 ⟨rfl, hb1⟩
           have HB1 := Lib.hid hb1
           have HO1 := Lib.hid (HOW.out.below hb1)
           clear hb1)
        | (refine wpList_buildA _ rfl 22 rfl Try.underlying22 Try.sizeOf31 Try.zeroValue31 (by decide) (by decide) rfl (by with_reducible assumption) ?_)
        | (at_builtin
           (refine wpList_append_one (.tmp 13) (.tmp 20) rfl 22 rfl slSeen (y := atC p z) (S := fun _ => False) rfl HO1.out rfl (by rw [← HA.out]; exact tSeen_mk HZ.out) (fun _ h => h.elim) (small_bytes (k := 1001) (by have := HFL.out; omega) (by decide)) (by have := HFL.out; unfold maxLen; omega) (by have := HB.out.size; have := HB1.out.size; omega) ?_)
           intro v' w2 ho2 hg2 hb2
           have HO2 := Lib.hid ho2
           have HB2 := Lib.hid hb2
           clear ho2 hg2 hb2))
      go_roundg (l.length - (k + 1))
      case measure => omega
      case rel => exact ⟨k + 1, by omega, by go_num, by rw [HT.out]; exact HO2.out, (bl_trans HB.out HB1.out).trans HB2.out⟩
    · have hkl : ¬ (k : Int) < (l.length : Int) := by omega
      have HF2 := Lib.hid (HFE.out (by omega))
      clear hown hb hlt hk HFE HTK
      go_wp2
      go_ret
      refine ⟨⟨_, rfl, ?_⟩, HB.out⟩
      rw [← HF2.out]
      exact HOW.out
end Go.Proofs.Ytffpnbipacgidaa
