/-
  Layer 44 (recon): the walks of Correct, Agree, rec, Settle.
-/
import Derived.Test.YtmjbbpappigngaaGreatRecoD
import Derived.Test.YtmjbbpappigngaaGreatExcClaims
namespace Go.Tw.Exc
open Go.RowKit Go.Tw
def corr1 (d : Dif) : List Rec := ⟨3, d.key, 0, 0, 0⟩ :: if d.o = 0 then [] else [⟨1, d.key, 0, d.o, 0⟩]
def correctC (l : List Dif) : List Rec := l.flatMap corr1
theorem correct_take (l : List Dif) {k : Nat} (h : k < l.length) : correctC (l.take (k + 1)) = correctC (l.take k) ++ corr1 l[k] := by
  unfold correctC
  rw [List.take_succ_eq_append_getElem h, List.flatMap_append]
  simp
theorem correct_len : ∀ l : List Dif, (correctC l).length ≤ 2 * l.length
  | [] => by simp [correctC]
  | d :: l => by
    have ih := correct_len l
    unfold correctC at ih ⊢
    rw [List.flatMap_cons, List.length_append, List.length_cons]
    have : (corr1 d).length ≤ 2 := by unfold corr1; split <;> simp
    omega
theorem corr_ok {d : Dif} (h : DifOk d) : RecOk ⟨3, d.key, 0, 0, 0⟩ ∧ RecOk ⟨1, d.key, 0, d.o, 0⟩ :=
  ⟨⟨(show i64ok 3 by unfold i64ok; decide), h.key, (show i64ok 0 by unfold i64ok; decide), (show i64ok 0 by unfold i64ok; decide), (show i64ok 0 by unfold i64ok; decide)⟩, ⟨(show i64ok 1 by unfold i64ok; decide), h.key, (show i64ok 0 by unfold i64ok; decide), h.o, (show i64ok 0 by unfold i64ok; decide)⟩⟩
end Go.Tw.Exc
namespace Go.Proofs.YtmjbbpappigngaaGreat
open Go.RowKit Go.Tw Go.Tw.Exc
set_option maxRecDepth 100000 in
set_option maxHeartbeats 4000000 in
theorem correct_any (L : List Dif) (v : Value) (w : World) (h : SlIs tDif (· < w.heap.size) w v L) (hlen : L.length ≤ 10000) :
    Calls Tryz.prog 23 #[v] w fun e w' => (∃ v', e = .returned v' ∧ OwnSl tRec 49 w.heap.size w' v' (correctC L)) ∧ Below w.heap.size w w' := by
  obtain ⟨ao, cp, bb, off, rfl, hl1, hl2, ho⟩ := dif_open h
  unfold maxLen at hl2
  have HL := Lib.hid ho
  clear h ho
  go_enter Tryz.func23, Tryz.ntmps23
  go_wp2_with (fail)
  go_loopg [8, 3] L.length (fun g i v wr => ∃ (k : Nat) (v0 : Value), v0 = v ∧ k + g = L.length ∧ i = .int .i64 k ∧ OwnSl tRec 49 w.heap.size wr v0 (correctC (L.take k)) ∧ Below w.heap.size w wr)
  case atStart => exact ⟨0, _, rfl, by omega, rfl, OwnSl.nil _ _ _ _, Below.refl _ _⟩
  case round =>
    obtain ⟨k, v0, rfl, hk, rfl, hown, hb⟩ := hrel
    have HO := Lib.hid hown
    obtain ⟨a0, c0, rfl, ho1, ho2⟩ := hown.form
    unfold maxLen at ho2
    have HB := Lib.hid hb
    have hsb := hb.size
    clear hown hb
    by_cases hlt : k < L.length
    · obtain ⟨rfl, -, hbw, hok, d0, d1, d2⟩ := HL.out _ (.of_below HB.out) k hlt
      have HT := Lib.hid (correct_take L hlt)
      have hll := correct_len (L.take k)
      rw [List.length_take] at hll
      obtain ⟨d, hd⟩ : ∃ d, L[k] = d := ⟨_, rfl⟩
      rw [hd] at HT d0 d1 d2 hok
      obtain ⟨l, hl⟩ : ∃ l, correctC (L.take k) = l := ⟨_, rfl⟩
      rw [hl] at HO HT hll ho1 ⊢
      have HCK := Lib.hid (corr_ok hok)
      have k0 : (0 : Int) ≤ (k : Int) := by omega
      have k1 : (k : Int) < (L.length : Int) := by omega
      have hlb : l.length ≤ 20000 := by omega
      clear hd hl hok hll
      by_cases hz : d.o = 0
      · have hne : (d.o != 0) = false := by simpa using hz
        have HN := Lib.hid (show correctC (L.take (k + 1)) = l ++ [⟨3, d.key, 0, 0, 0⟩] by rw [HT.out]; unfold corr1; rw [if_pos hz])
        clear hz
        go_wp2_with (at_builtin
                     refine wpList_append_one (.tmp 12) (.tmp 16) rfl 27 rfl slRec rfl (HO.out.below (bl_alloc (Below.refl _ _) _)) (by rw [World.size_alloc]; rfl) (S := fun _ => False) (y := ⟨3, d.key, 0, 0, 0⟩) (tRec_mk (r := ⟨3, d.key, 0, 0, 0⟩) HCK.out.1) (fun _ h => h.elim) (by omega) (by unfold maxLen; omega) (by simp; omega) ?_
                     intro v3 w9 ho9 hg9 hb9
                     have HO9 := Lib.hid ho9
                     have HB9 := Lib.hid (HB.out.trans (((bl_alloc (Below.refl wr.heap.size wr) _).mono hsb).trans hb9))
                     obtain ⟨f0, f1, f2, ff⟩ := blk3 ((hg9.block wr.heap.size (by simp; omega) (fun e => by have := (HO.out.own_lt _ e.symm).2; omega)).trans ((Below.heap_alloc _ _ _ (by simp)).trans (alloc1_0 wr _)))
                     have hz9 := HB9.out.size
                     have hl9 : (l ++ [(⟨3, d.key, 0, 0, 0⟩ : Rec)]).length = l.length + 1 := by simp
                     obtain ⟨a9, c9, q9, -, -⟩ := ho9.form
                     rw [hl9] at q9
                     subst q9
                     clear ho9 hg9 hb9)
        go_roundg (L.length - (k + 1))
        case measure => omega
        case rel => exact ⟨k + 1, _, rfl, by omega, by go_num, by rw [HN.out]; exact HO9.out, HB9.out⟩
      · have hne : (d.o != 0) = true := by simpa using hz
        have HN := Lib.hid (show correctC (L.take (k + 1)) = (l ++ [⟨3, d.key, 0, 0, 0⟩]) ++ [⟨1, d.key, 0, d.o, 0⟩] by rw [HT.out]; unfold corr1; rw [if_neg hz]; simp)
        clear hz
        go_wp2_with (first
          | (at_builtin
             refine wpList_append_one (.tmp 12) (.tmp 16) rfl 27 rfl slRec rfl (HO.out.below (bl_alloc (Below.refl _ _) _)) (by rw [World.size_alloc]; rfl) (S := fun _ => False) (y := ⟨3, d.key, 0, 0, 0⟩) (tRec_mk (r := ⟨3, d.key, 0, 0, 0⟩) HCK.out.1) (fun _ h => h.elim) (by omega) (by unfold maxLen; omega) (by simp; omega) ?_
             intro v3 w9 ho9 hg9 hb9
             have HO9 := Lib.hid ho9
             have HB9 := Lib.hid (HB.out.trans (((bl_alloc (Below.refl wr.heap.size wr) _).mono hsb).trans hb9))
             obtain ⟨f0, f1, f2, ff⟩ := blk3 ((hg9.block wr.heap.size (by simp; omega) (fun e => by have := (HO.out.own_lt _ e.symm).2; omega)).trans ((Below.heap_alloc _ _ _ (by simp)).trans (alloc1_0 wr _)))
             have hz9 := HB9.out.size
             have hl9 : (l ++ [(⟨3, d.key, 0, 0, 0⟩ : Rec)]).length = l.length + 1 := by simp
             obtain ⟨a9, c9, q9, -, -⟩ := ho9.form
             rw [hl9] at q9
             subst q9
             clear ho9 hg9 hb9)
          | (at_builtin
             refine wpList_append_one (.tmp 21) (.tmp 27) rfl 27 rfl slRec rfl HO9.out rfl (S := fun _ => False) (y := ⟨1, d.key, 0, d.o, 0⟩) (tRec_mk (r := ⟨1, d.key, 0, d.o, 0⟩) HCK.out.2) (fun _ h => h.elim) (by rw [hl9]; omega) (by rw [hl9]; unfold maxLen; omega) hz9 ?_
             intro v4 w10 ho10 hg10 hb10))
        go_roundg (L.length - (k + 1))
        case measure => omega
        case rel => exact ⟨k + 1, _, rfl, by omega, by go_num, by rw [HN.out]; exact ho10, HB9.out.trans hb10⟩
    · obtain rfl : k = L.length := by omega
      have hkd : decide ((L.length : Int) < (L.length : Int)) = false := by simp
      have HR := Lib.hid (show OwnSl tRec 49 w.heap.size wr (.slice a0 (correctC (L.take L.length)).length c0) (correctC L) from by
        have := HO.out
        rw [List.take_length] at this ⊢
        exact this)
      clear hk hlt
      go_wp2_with (fail)
      go_ret
      exact ⟨⟨_, rfl, HR.out⟩, HB.out⟩
set_option maxRecDepth 100000 in
set_option maxHeartbeats 4000000 in
theorem correctR_any (L : List Dif) (v : Value) (w : World) (h : SlIs tDif (· < w.heap.size) w v L) (hlen : L.length ≤ 10000) :
    Calls Tryz.prog 34 #[v] w fun e w' => (∃ v', e = .returned v' ∧ OwnSl tRec 49 w.heap.size w' v' (correctC L)) ∧ Below w.heap.size w w' := by
  obtain ⟨ao, cp, bb, off, rfl, hl1, hl2, ho⟩ := dif_open h
  unfold maxLen at hl2
  have HL := Lib.hid ho
  clear h ho
  have o0 : OwnSl tRec 49 w.heap.size (w.alloc (.cells #[] 49)) (.slice (some ⟨w.heap.size, 0, none⟩) 0 0) [] := OwnSl.lit (css := []) rfl trivial (Nat.le_refl _) (by decide)
  have HO0 := Lib.hid o0
  clear o0
  go_enter Tryz.func34, Tryz.ntmps34
  go_wp2_with (fail)
  go_loopg [4, 3] L.length (fun g i v wr => ∃ (k : Nat) (v0 : Value), v0 = v ∧ k + g = L.length ∧ i = .int .i64 k ∧ OwnSl tRec 49 w.heap.size wr v0 (correctC (L.take k)) ∧ Below w.heap.size w wr)
  case atStart => exact ⟨0, _, rfl, by omega, rfl, HO0.out, bl_alloc (Below.refl _ _) _⟩
  case round =>
    clear HO0
    obtain ⟨k, v0, rfl, hk, rfl, hown, hb⟩ := hrel
    have HO := Lib.hid hown
    obtain ⟨a0, c0, rfl, ho1, ho2⟩ := hown.form
    unfold maxLen at ho2
    have HB := Lib.hid hb
    have hsb := hb.size
    clear hown hb
    by_cases hlt : k < L.length
    · obtain ⟨rfl, -, hbw, hok, d0, d1, d2⟩ := HL.out _ (.of_below HB.out) k hlt
      have HT := Lib.hid (correct_take L hlt)
      have hll := correct_len (L.take k)
      rw [List.length_take] at hll
      obtain ⟨d, hd⟩ : ∃ d, L[k] = d := ⟨_, rfl⟩
      rw [hd] at HT d0 d1 d2 hok
      obtain ⟨l, hl⟩ : ∃ l, correctC (L.take k) = l := ⟨_, rfl⟩
      rw [hl] at HO HT hll ho1 ⊢
      have HCK := Lib.hid (corr_ok hok)
      have k0 : (0 : Int) ≤ (k : Int) := by omega
      have k1 : (k : Int) < (L.length : Int) := by omega
      have hlb : l.length ≤ 20000 := by omega
      have hdd := hd
      clear hd hl hok hll
      by_cases hz : d.o = 0
      · have hne : (d.o != 0) = false := by simpa using hz
        have HN := Lib.hid (show correctC (L.take (k + 1)) = l ++ [⟨3, d.key, 0, 0, 0⟩] by rw [HT.out]; unfold corr1; rw [if_pos hz])
        clear hz
        go_wp2_with (at_builtin
                     refine wpList_append_one (.tmp 12) (.tmp 19) rfl 27 rfl slRec rfl HO.out rfl (S := fun _ => False) (y := ⟨3, d.key, 0, 0, 0⟩) (tRec_mk (r := ⟨3, d.key, 0, 0, 0⟩) HCK.out.1) (fun _ h => h.elim) (by omega) (by unfold maxLen; omega) hsb ?_
                     intro v3 w9 ho9 hg9 hb9
                     have HO9 := Lib.hid ho9
                     have HB9 := Lib.hid (HB.out.trans hb9)
                     have hz9 := HB9.out.size
                     have hl9 : (l ++ [(⟨3, d.key, 0, 0, 0⟩ : Rec)]).length = l.length + 1 := by simp
                     obtain ⟨a9, c9, q9, -, -⟩ := ho9.form
                     rw [hl9] at q9
                     subst q9
                     obtain ⟨-, -, -, -, f0, f1, f2⟩ := HL.out _ (.of_below HB9.out) k hlt
                     rw [hdd] at f0 f1 f2
                     clear ho9 hg9 hb9)
        go_roundg (L.length - (k + 1))
        case measure => omega
        case rel => exact ⟨k + 1, _, rfl, by omega, by go_num, by rw [HN.out]; exact HO9.out, HB9.out⟩
      · have hne : (d.o != 0) = true := by simpa using hz
        have HN := Lib.hid (show correctC (L.take (k + 1)) = (l ++ [⟨3, d.key, 0, 0, 0⟩]) ++ [⟨1, d.key, 0, d.o, 0⟩] by rw [HT.out]; unfold corr1; rw [if_neg hz]; simp)
        clear hz
        go_upto_region 7 with (at_builtin
                               refine wpList_append_one (.tmp 12) (.tmp 19) rfl 27 rfl slRec rfl HO.out rfl (S := fun _ => False) (y := ⟨3, d.key, 0, 0, 0⟩) (tRec_mk (r := ⟨3, d.key, 0, 0, 0⟩) HCK.out.1) (fun _ h => h.elim) (by omega) (by unfold maxLen; omega) hsb ?_
                               intro v3 w9 ho9 hg9 hb9
                               have HO9 := Lib.hid ho9
                               have HB9 := Lib.hid (HB.out.trans hb9)
                               have hz9 := HB9.out.size
                               have hl9 : (l ++ [(⟨3, d.key, 0, 0, 0⟩ : Rec)]).length = l.length + 1 := by simp
                               obtain ⟨a9, c9, q9, -, -⟩ := ho9.form
                               rw [hl9] at q9
                               subst q9
                               obtain ⟨-, -, -, -, f0, f1, f2⟩ := HL.out _ (.of_below HB9.out) k hlt
                               rw [hdd] at f0 f1 f2
                               clear ho9 hg9 hb9)
        have hbb1 : ((l ++ [(⟨3, d.key, 0, 0, 0⟩ : Rec)]).length + ([(⟨1, d.key, 0, d.o, 0⟩ : Rec)]).length) * 48 ≤ 140737488355328 := by rw [hl9]; simp; omega
        have hbb2 : (l ++ [(⟨3, d.key, 0, 0, 0⟩ : Rec)]).length + ([(⟨1, d.key, 0, d.o, 0⟩ : Rec)]).length ≤ maxLen := by rw [hl9]; unfold maxLen; simp; omega
        have HC3 := Lib.hid (show ∀ w', Below w9.heap.size w9 w' → w'.cell? ⟨bb, off + k * 3, none⟩ = some (.string d.key) ∧ w'.cell? ⟨bb, off + k * 3 + 1, none⟩ = some (.int .i64 d.o) ∧ w'.cell? ⟨bb, off + k * 3 + 2, none⟩ = some (.int .i64 d.t) from fun w' hw => by
          obtain ⟨-, -, -, -, q0, q1, q2⟩ := HL.out _ (.of_below (HB9.out.trans (hw.mono hz9))) k hlt
          rw [hdd] at q0 q1 q2
          exact ⟨q0, q1, q2⟩)
        have HSG := Lib.hid (SlIs.single (T := tRec) (w := w9.drew) (e := 49) (cs := #[.int .i64 1, .string d.key, .int .i64 0, .int .i64 d.o, .int .i64 0]) (x := ⟨1, d.key, 0, d.o, 0⟩) (S := fun _ => False) (tRec_mk (r := ⟨1, d.key, 0, d.o, 0⟩) HCK.out.2) (fun _ h => h.elim))
        have HO9d := Lib.hid (show OwnSl tRec 49 w.heap.size (w9.drew.alloc (.cells #[.int .i64 1, .string d.key, .int .i64 0, .int .i64 d.o, .int .i64 0] 49)) (.slice a9 (l.length + 1) c9) (l ++ [⟨3, d.key, 0, 0, 0⟩]) from HO9.out.below (bl_alloc (Below.drew (Below.refl _ _)) _))
        have hown9 : ∀ q, (Value.slice a9 (l.length + 1) c9).ownBlock = some q → q < w9.heap.size := fun q e => (HO9.out.own_lt q e).2
        clear f0 f1 f2 d0 d1 d2
        refine wp_region_E 13 (fun w' => Below w9.heap.size w9 w') (by kernel_rfl) ((by (repeat (first | (with_reducible exact Below.refl _ _) | (with_reducible apply bl_drewN) | (with_reducible apply bl_alloc) | (with_reducible apply Below.drew))); done)) (fun hHeld => ?_)
        refine wpE_take (i := 0) (v := ?_) rfl (by kernel_rfl) (fun _ _ _ h => h) (Or.inl ⟨by kernel_rfl, ?_⟩) (by assumption) ?_
        rotate_left
        focus (intro w9 hS9; (try dsimp only at hS9); go_simp; (try with_reducible rfl))
        (try simp only [Act.put])
        (try simp only [List.setIfInBounds_toArray])
        (repeat (first | simp only [List.set_cons_succ] | simp only [List.set_cons_zero]))
        refine wpE_take (i := 1) (v := ?_) rfl (by kernel_rfl) (fun _ _ _ h => h) (Or.inl ⟨by kernel_rfl, ?_⟩) (by assumption) ?_
        rotate_left
        focus (intro w9 hS9; (try dsimp only at hS9); go_simp; (try with_reducible rfl))
        (try simp only [Act.put])
        (try simp only [List.setIfInBounds_toArray])
        (repeat (first | simp only [List.set_cons_succ] | simp only [List.set_cons_zero]))
        refine wpE_take (i := 2) (v := ?_) rfl (by kernel_rfl) (fun _ _ _ h => h) (Or.inl ⟨by kernel_rfl, ?_⟩) (by assumption) ?_
        rotate_left
        focus (intro w9 hS9; (try dsimp only at hS9); go_simp; (try with_reducible rfl))
        (try simp only [Act.put])
        (try simp only [List.setIfInBounds_toArray])
        (repeat (first | simp only [List.set_cons_succ] | simp only [List.set_cons_zero]))
        refine wpE_take (i := 3) (v := ?_) rfl (by kernel_rfl) (fun _ _ _ h => h) (Or.inl ⟨by kernel_rfl, ?_⟩) (by assumption) ?_
        rotate_left
        focus (intro w9 hS9; (try dsimp only at hS9); go_simp; (try with_reducible rfl))
        (try simp only [Act.put])
        (try simp only [List.setIfInBounds_toArray])
        (repeat (first | simp only [List.set_cons_succ] | simp only [List.set_cons_zero]))
        refine wpE_take (i := 4) (v := ?_) rfl (by kernel_rfl) (fun _ _ _ h => h) (Or.inl ⟨by kernel_rfl, ?_⟩) (by assumption) ?_
        rotate_left
        focus (intro w9 hS9; (try dsimp only at hS9); go_simp; (try with_reducible rfl))
        (try simp only [Act.put])
        (try simp only [List.setIfInBounds_toArray])
        (repeat (first | simp only [List.set_cons_succ] | simp only [List.set_cons_zero]))
        refine wpE_take (i := 5) (v := ?_) rfl (by kernel_rfl) (fun _ _ _ h => h) (Or.inl ⟨by kernel_rfl, ?_⟩) (by assumption) ?_
        rotate_left
        focus (intro w9 hS9; obtain ⟨z0, z1, z2⟩ := HC3.out w9 hS9; clear hS9; go_simp; (try with_reducible rfl))
        (try simp only [Act.put])
        (try simp only [List.setIfInBounds_toArray])
        (repeat (first | simp only [List.set_cons_succ] | simp only [List.set_cons_zero]))
        refine wpE_take (i := 6) (v := ?_) rfl (by kernel_rfl) (fun _ _ _ h => h) (Or.inl ⟨by kernel_rfl, ?_⟩) (by assumption) ?_
        rotate_left
        focus (intro w9 hS9; (try dsimp only at hS9); go_simp; (try with_reducible rfl))
        (try simp only [Act.put])
        (try simp only [List.setIfInBounds_toArray])
        (repeat (first | simp only [List.set_cons_succ] | simp only [List.set_cons_zero]))
        refine wpE_take (i := 7) (v := ?_) rfl (by kernel_rfl) (fun _ _ _ h => h) (Or.inl ⟨by kernel_rfl, ?_⟩) (by assumption) ?_
        rotate_left
        focus (intro w9 hS9; (try dsimp only at hS9); go_simp; (try with_reducible rfl))
        (try simp only [Act.put])
        (try simp only [List.setIfInBounds_toArray])
        (repeat (first | simp only [List.set_cons_succ] | simp only [List.set_cons_zero]))
        refine wpE_take (i := 8) (v := ?_) rfl (by kernel_rfl) (fun _ _ _ h => h) (Or.inl ⟨by kernel_rfl, ?_⟩) (by assumption) ?_
        rotate_left
        focus (intro w9 hS9; (try dsimp only at hS9); go_simp; (try with_reducible rfl))
        (try simp only [Act.put])
        (try simp only [List.setIfInBounds_toArray])
        (repeat (first | simp only [List.set_cons_succ] | simp only [List.set_cons_zero]))
        refine wpE_take (i := 9) (v := ?_) rfl (by kernel_rfl) (fun _ _ _ h => h) (Or.inl ⟨by kernel_rfl, ?_⟩) (by assumption) ?_
        rotate_left
        focus (intro w9 hS9; (try dsimp only at hS9); go_simp; (try with_reducible rfl))
        (try simp only [Act.put])
        (try simp only [List.setIfInBounds_toArray])
        (repeat (first | simp only [List.set_cons_succ] | simp only [List.set_cons_zero]))
        refine wpE_take (i := 10) (v := ?_) rfl (by kernel_rfl) (fun _ _ _ h => h) (Or.inl ⟨by kernel_rfl, ?_⟩) (by assumption) ?_
        rotate_left
        focus (intro w9 hS9; obtain ⟨z0, z1, z2⟩ := HC3.out w9 hS9; clear hS9; go_simp; (try with_reducible rfl))
        (try simp only [Act.put])
        (try simp only [List.setIfInBounds_toArray])
        (repeat (first | simp only [List.set_cons_succ] | simp only [List.set_cons_zero]))
        refine wpE_take (i := 11) (v := ?_) rfl (by kernel_rfl) (fun _ _ _ h => h) (Or.inl ⟨by kernel_rfl, ?_⟩) (by assumption) ?_
        rotate_left
        focus (intro w9 hS9; (try dsimp only at hS9); go_simp; (try with_reducible rfl))
        (try simp only [Act.put])
        (try simp only [List.setIfInBounds_toArray])
        (repeat (first | simp only [List.set_cons_succ] | simp only [List.set_cons_zero]))
        refine wpE_ready (rs := [12]) (by kernel_rfl) (by kernel_rfl) ?_
        refine AllReadyE.cons rfl (fun K hK => ?_) AllReadyE.nil
        rw [if_pos (show _ = true by kernel_rfl)]
        go_simp
        clear hHeld
        refine hK.out _ _ ((by (repeat (first | (with_reducible exact Below.refl _ _) | (with_reducible apply bl_drewN) | (with_reducible apply bl_alloc) | (with_reducible apply Below.drew))); done)) (fun hHeld => ?_)
        clear hK K
        clear hHeld
        refine wpE_out (by kernel_rfl) ?_
        refine wpAny_ready (rs := [13]) (by kernel_rfl) (by simp) ?_
        refine AllReady.cons rfl (fun K hK => ?_) AllReady.nil
        refine step_append_sl (.tmp 27) (.tmp 39) rfl 27 rfl slRec rfl HO9d.out rfl HSG.out (fun q hq => by
          rcases hq with h | h
          · exact h.elim
          · subst h
            exact ⟨by simp, fun e => by have := hown9 _ e.symm; exact absurd this (Nat.lt_irrefl _)⟩) hbb1 hbb2 (by simp; omega) ?_
        intro v4 w10 ho10 hg10 hor10
        have hb10 : Below w.heap.size w w10 := (HB9.out.trans (((bl_alloc (Below.drew (Below.refl w9.heap.size w9)) (.cells #[.int .i64 1, .string d.key, .int .i64 0, .int .i64 d.o, .int .i64 0] 49)).mono hz9).trans (Below.of_grown hg10 (by simp; omega) (fun q e => (HO9.out.own_lt q e).1))))
        refine hK _ _ ?_
        clear hK K
        refine wpAny_ready (rs := [14]) (by kernel_rfl) (by simp) ?_
        refine AllReady.cons rfl (fun K hK => ?_) AllReady.nil
        rw [if_pos (show _ = true by kernel_rfl)]
        go_simp
        refine hK _ _ ?_
        clear hK K
        refine wpAny_done (by kernel_rfl) ?_ _
        go_wp2_with (fail)
        go_roundg (L.length - (k + 1))
        case measure => omega
        case rel => exact ⟨k + 1, _, rfl, by omega, by go_num, by rw [HN.out]; exact ho10, hb10⟩
    · obtain rfl : k = L.length := by omega
      have hkd : decide ((L.length : Int) < (L.length : Int)) = false := by simp
      have HR := Lib.hid (show OwnSl tRec 49 w.heap.size wr (.slice a0 (correctC (L.take L.length)).length c0) (correctC L) from by
        have := HO.out
        rw [List.take_length] at this ⊢
        exact this)
      clear hk hlt
      go_wp2_with (fail)
      go_ret
      exact ⟨⟨_, rfl, HR.out⟩, HB.out⟩
end Go.Proofs.YtmjbbpappigngaaGreat
