/-
  Layer 44 (recon): the walks of Correct, Agree, rec, Settle.
-/
import Derived.Test.YtmjbbpappigngaaRecoD
import Derived.Test.YtmjbbpappigngaaExcClaims
namespace Go.Tw.Exc
open Go.RowKit Go.Tw
def corr1 (d : Dif) : List Rec := ⟨3, d.key, 0, 0, 0⟩ :: if d.o = 0 then [] else [⟨1, d.key, 0, d.o, 0⟩]
def correctC (l : List Dif) : List Rec := l.flatMap corr1
theorem correct_take (l : List Dif) {k : Nat} (h : k < l.length) : correctC (l.take (k + 1)) = correctC (l.take k) ++ corr1 l[k] := by
  unfold correctC
  rw [List.take_succ_eq_append_getElem h, List.flatMap_append]
  simp
theorem correct_len : ∀ l : List Dif, (correctC l).length ≤ 2 * l.length
  | [] => by simp [correctC]
  | d :: l => by
    have ih := correct_len l
    unfold correctC at ih ⊢
    rw [List.flatMap_cons, List.length_append, List.length_cons]
    have : (corr1 d).length ≤ 2 := by unfold corr1; split <;> simp
    omega
theorem corr_ok {d : Dif} (h : DifOk d) : RecOk ⟨3, d.key, 0, 0, 0⟩ ∧ RecOk ⟨1, d.key, 0, d.o, 0⟩ :=
  ⟨⟨(show i64ok 3 by unfold i64ok; decide), h.key, (show i64ok 0 by unfold i64ok; decide), (show i64ok 0 by unfold i64ok; decide), (show i64ok 0 by unfold i64ok; decide)⟩, ⟨(show i64ok 1 by unfold i64ok; decide), h.key, (show i64ok 0 by unfold i64ok; decide), h.o, (show i64ok 0 by unfold i64ok; decide)⟩⟩
end Go.Tw.Exc
namespace Go.Proofs.Ytmjbbpappigngaa
open Go.RowKit Go.Tw Go.Tw.Exc
set_option maxRecDepth 100000 in
set_option maxHeartbeats 4000000 in
theorem correct_any (L : List Dif) (v : Value) (w : World) (h : SlIs tDif (· < w.heap.size) w v L) (hlen : L.length ≤ 10000) :
    Calls Try.prog 12 #[v] w fun e w' => (∃ v', e = .returned v' ∧ OwnSl tRec 40 w.heap.size w' v' (correctC L)) ∧ Below w.heap.size w w' := by
  obtain ⟨ao, cp, bb, off, rfl, hl1, hl2, ho⟩ := dif_open h
  unfold maxLen at hl2
  have HL := Lib.hid ho
  clear h ho
  go_enter Try.func12, Try.ntmps12
  go_wp2_with (fail)
  go_loopg [8, 3] L.length (fun g i v wr => ∃ (k : Nat) (v0 : Value), v0 = v ∧ k + g = L.length ∧ i = .int .i64 k ∧ OwnSl tRec 40 w.heap.size wr v0 (correctC (L.take k)) ∧ Below w.heap.size w wr)
  case atStart => exact ⟨0, _, rfl, by omega, rfl, OwnSl.nil _ _ _ _, Below.refl _ _⟩
  case round =>
    obtain ⟨k, v0, rfl, hk, rfl, hown, hb⟩ := hrel
    have HO := Lib.hid hown
    obtain ⟨a0, c0, rfl, ho1, ho2⟩ := hown.form
    unfold maxLen at ho2
    have HB := Lib.hid hb
    have hsb := hb.size
    clear hown hb
    by_cases hlt : k < L.length
    · obtain ⟨rfl, -, hbw, hok, d0, d1, d2⟩ := HL.out _ (.of_below HB.out) k hlt
      have HT := Lib.hid (correct_take L hlt)
      have hll := correct_len (L.take k)
      rw [List.length_take] at hll
      obtain ⟨d, hd⟩ : ∃ d, L[k] = d := ⟨_, rfl⟩
      rw [hd] at HT d0 d1 d2 hok
      obtain ⟨l, hl⟩ : ∃ l, correctC (L.take k) = l := ⟨_, rfl⟩
      rw [hl] at HO HT hll ho1 ⊢
      have HCK := Lib.hid (corr_ok hok)
      have k0 : (0 : Int) ≤ (k : Int) := by omega
      have k1 : (k : Int) < (L.length : Int) := by omega
      have hlb : l.length ≤ 20000 := by omega
      clear hd hl hok hll
      by_cases hz : d.o = 0
      · have hne : (d.o != 0) = false := by simpa using hz
        have HN := Lib.hid (show correctC (L.take (k + 1)) = l ++ [⟨3, d.key, 0, 0, 0⟩] by rw [HT.out]; unfold corr1; rw [if_pos hz])
        clear hz
        go_wp2_with (at_builtin
                     refine wpList_append_one (.tmp 12) (.tmp 16) rfl 26 rfl slRec rfl (HO.out.below (bl_alloc (Below.refl _ _) _)) (by rw [World.size_alloc]; rfl) (S := fun _ => False) (y := ⟨3, d.key, 0, 0, 0⟩) (tRec_mk (r := ⟨3, d.key, 0, 0, 0⟩) HCK.out.1) (fun _ h => h.elim) (by omega) (by unfold maxLen; omega) (by simp; omega) ?_
                     intro v3 w9 ho9 hg9 hb9
                     have HO9 := Lib.hid ho9
                     have HB9 := Lib.hid (HB.out.trans (((bl_alloc (Below.refl wr.heap.size wr) _).mono hsb).trans hb9))
                     obtain ⟨f0, f1, f2, ff⟩ := blk3 ((hg9.block wr.heap.size (by simp; omega) (fun e => by have := (HO.out.own_lt _ e.symm).2; omega)).trans ((Below.heap_alloc _ _ _ (by simp)).trans (alloc1_0 wr _)))
                     have hz9 := HB9.out.size
                     have hl9 : (l ++ [(⟨3, d.key, 0, 0, 0⟩ : Rec)]).length = l.length + 1 := by simp
                     obtain ⟨a9, c9, q9, -, -⟩ := ho9.form
                     rw [hl9] at q9
                     subst q9
                     clear ho9 hg9 hb9)
        go_roundg (L.length - (k + 1))
        case measure => omega
        case rel => exact ⟨k + 1, _, rfl, by omega, by go_num, by rw [HN.out]; exact HO9.out, HB9.out⟩
      · have hne : (d.o != 0) = true := by simpa using hz
        have HN := Lib.hid (show correctC (L.take (k + 1)) = (l ++ [⟨3, d.key, 0, 0, 0⟩]) ++ [⟨1, d.key, 0, d.o, 0⟩] by rw [HT.out]; unfold corr1; rw [if_neg hz]; simp)
        clear hz
        go_wp2_with (first
          | (at_builtin
             refine wpList_append_one (.tmp 12) (.tmp 16) rfl 26 rfl slRec rfl (HO.out.below (bl_alloc (Below.refl _ _) _)) (by rw [World.size_alloc]; rfl) (S := fun _ => False) (y := ⟨3, d.key, 0, 0, 0⟩) (tRec_mk (r := ⟨3, d.key, 0, 0, 0⟩) HCK.out.1) (fun _ h => h.elim) (by omega) (by unfold maxLen; omega) (by simp; omega) ?_
             intro v3 w9 ho9 hg9 hb9
             have HO9 := Lib.hid ho9
             have HB9 := Lib.hid (HB.out.trans (((bl_alloc (Below.refl wr.heap.size wr) _).mono hsb).trans hb9))
             obtain ⟨f0, f1, f2, ff⟩ := blk3 ((hg9.block wr.heap.size (by simp; omega) (fun e => by have := (HO.out.own_lt _ e.symm).2; omega)).trans ((Below.heap_alloc _ _ _ (by simp)).trans (alloc1_0 wr _)))
             have hz9 := HB9.out.size
             have hl9 : (l ++ [(⟨3, d.key, 0, 0, 0⟩ : Rec)]).length = l.length + 1 := by simp
             obtain ⟨a9, c9, q9, -, -⟩ := ho9.form
             rw [hl9] at q9
             subst q9
             clear ho9 hg9 hb9)
          | (at_builtin
             refine wpList_append_one (.tmp 21) (.tmp 27) rfl 26 rfl slRec rfl HO9.out rfl (S := fun _ => False) (y := ⟨1, d.key, 0, d.o, 0⟩) (tRec_mk (r := ⟨1, d.key, 0, d.o, 0⟩) HCK.out.2) (fun _ h => h.elim) (by rw [hl9]; omega) (by rw [hl9]; unfold maxLen; omega) hz9 ?_
             intro v4 w10 ho10 hg10 hb10))
        go_roundg (L.length - (k + 1))
        case measure => omega
        case rel => exact ⟨k + 1, _, rfl, by omega, by go_num, by rw [HN.out]; exact ho10, HB9.out.trans hb10⟩
    · obtain rfl : k = L.length := by omega
      have hkd : decide ((L.length : Int) < (L.length : Int)) = false := by simp
      have HR := Lib.hid (show OwnSl tRec 40 w.heap.size wr (.slice a0 (correctC (L.take L.length)).length c0) (correctC L) from by
        have := HO.out
        rw [List.take_length] at this ⊢
        exact this)
      clear hk hlt
      go_wp2_with (fail)
      go_ret
      exact ⟨⟨_, rfl, HR.out⟩, HB.out⟩
end Go.Proofs.Ytmjbbpappigngaa
