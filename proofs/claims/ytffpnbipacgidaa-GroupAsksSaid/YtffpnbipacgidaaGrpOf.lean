/-
  Layer 14 (group): the walk of Of.
-/
import Derived.Test.YtffpnbipacgidaaGrpE
import Derived.Test.YtffpnbipacgidaaAgg
import Derived.Deep.CutBlock
import Derived.Deep.DeepCutAuto
namespace Go.Proofs.Ytffpnbipacgidaa
open Go.RowKit Go.Tw Go.Tw.Ord Go.Tw.Grp Go.Sort
/-- a detection is loaded whole -/
theorem load_seen {w : World} {b o : Nat} {x : Seen} (P : Program) (h : ∀ j, j < 11 → w.cell? ⟨b, o + j, none⟩ = (sCells x)[j]?) : Sem.run P (loadCellsFrom ⟨b, o, none⟩ 0 11 #[]) w = .ok (sCells x).toArray w :=
  run_loadCellsFrom_list P w ⟨b, o, none⟩ (sCells x) 11 (sCells_len x) fun j v hv => by
    have hj : j < 11 := by
      have := (List.getElem?_eq_some_iff.1 hv).1
      rwa [sCells_len] at this
    rw [Addr.add_lit, h j hj, hv]
theorem oneA {x : Seen} {A : Array Value} (h : (sCells x).toArray = A) : ∀ v ∈ A.toList, v.oneCell' = true := by subst h; simpa using sCells_one x
theorem SBox.load {w : World} {b : Nat} {x : Seen} (h : SBox w b x) : Sem.run Try.prog (loadCellsFrom ⟨b, 0, none⟩ 0 11 #[]) w = .ok (sCells x).toArray w :=
  load_seen _ fun j hj => by
    rw [Nat.zero_add, cell_of_row _ _ _ _ _ _ h]
    simp
theorem SBox.step {w w' : World} {b : Nat} {x : Seen} (h : SBox w b x) (hb : Below w.heap.size w w') : SBox w' b x := Go.Tw.Below.at_old hb h
set_option maxHeartbeats 2000000 in
theorem of_any (l : List Seen) (kd : Int) (v : Value) (w : World) (h : SlIs tSeen (· < w.heap.size) w v l) (hl : l.length ≤ 1000) :
    Calls Try.prog 20 #[v, .int .i64 kd] w fun e w' => (∃ v', e = .returned v' ∧ OwnSl tSeen 31 w.heap.size w' v' (l.filter fun x => x.kd == kd)) ∧ Below w.heap.size w w' := by
  obtain ⟨ao, cp, b, o, rfl, h1, h2, ho⟩ := seen_row h
  unfold maxLen at h2
  have HO := Lib.hid ho
  clear h ho
  go_enter Try.func20, Try.ntmps20
  go_wp2
  go_loopg [5, 10] l.length (fun gx sv i wr => ∃ k : Nat, k + gx = l.length ∧ i = .int .i64 k ∧ OwnSl tSeen 31 w.heap.size wr sv ((l.take k).filter fun x => x.kd == kd) ∧ Below w.heap.size w wr)
  case atStart => exact ⟨0, by omega, rfl, OwnSl.nil _ _ _ _, Below.refl _ _⟩
  case round =>
    obtain ⟨k, hk, rfl, hown, hb⟩ := hrel
    obtain ⟨av, cv, rfl, hv1, hv2⟩ := hown.form
    by_cases hlt : k < l.length
    · obtain ⟨rfl, -, hbk, hok, hc⟩ := HO.out wr (.of_below hb) k hlt
      have ld := load_seen (x := l[k]) Try.prog hc
      have HOW := Lib.hid hown
      have HB := Lib.hid hb
      have k0 : (0 : Int) ≤ (k : Int) := by omega
      have k1 : (k : Int) < (l.length : Int) := by omega
      obtain ⟨A, hA⟩ : ∃ A, (sCells l[k]).toArray = A := ⟨_, rfl⟩
      rw [hA] at ld
      have hs : A.size = 11 := by rw [← hA]; rfl
      have HA := Lib.hid hA
      have h1c := oneA hA
      have hbx : SBox (wr.alloc (.cells A 31)) wr.heap.size l[k] := by rw [← hA]; exact heap_alloc_new _ _
      have hld2 := hbx.load
      rw [hA] at hld2
      have c10 := hbx.cell 10 (v := .int .i64 l[k].kd) rfl
      have HT := Lib.hid (show (l.take (k + 1)).filter (fun x => x.kd == kd) = (l.take k).filter (fun x => x.kd == kd) ++ (if l[k].kd == kd then [l[k]] else []) by
        rw [List.take_succ_eq_append_getElem hlt, List.filter_append]
        simp [List.filter_cons])
      have hfl : ((l.take k).filter (fun x => x.kd == kd)).length ≤ 1000 := Nat.le_trans (List.length_filter_le _ _) (by simp; omega)
      have HF := Lib.hid hfl
      have HOK := Lib.hid hok
      obtain ⟨m, hm⟩ : ∃ m, (l.take k).filter (fun x => x.kd == kd) = m := ⟨_, rfl⟩
      rw [hm] at HOW HT HF ⊢
      obtain ⟨z, hz⟩ : ∃ z, l[k].kd = z := ⟨_, rfl⟩
      rw [hz] at c10 HT
      clear hA hc hown hb hbx hfl hok hm hz
      have hsB := HB.out.size
      by_cases hkd : z = kd
      · have hkd' : (z == kd) = true := by simpa using hkd
        have HKD := Lib.hid hkd
        clear hkd
        go_wp2_with (first
          | (refine wpList_loadA _ rfl 31 rfl Try.isAgg31 Try.sizeOf31 rfl (by with_reducible assumption) ?_)
          | (refine wpList_newA 7 rfl (.tmp 13) rfl rfl 31 rfl rfl rfl Try.sizeOf31 Try.zeroValue31 rfl (by with_reducible assumption) (by with_reducible assumption) (by simp [Act.put]) rfl ?_)
          | (refine wpList_buildA _ rfl 22 rfl Try.underlying22 Try.sizeOf31 Try.zeroValue31 (by decide) (by decide) rfl (by with_reducible assumption) ?_)
          | (at_builtin
             refine wpList_append_one (.tmp 18) (.tmp 20) rfl 22 rfl slSeen (y := l[k]) (S := fun _ => False) rfl (HOW.out.alloc _) rfl (by rw [← HA.out]; exact tSeen_mk HOK.out) (fun _ h => h.elim) (small_bytes (k := 1001) (by have := HF.out; omega) (by decide)) (by have := HF.out; unfold maxLen; omega) (by simp; omega) ?_
             intro v' w1 ho1 hg1 hb1))
        go_roundg (l.length - (k + 1))
        case measure => omega
        case rel => exact ⟨k + 1, by omega, by go_num, by rw [HT.out, if_pos (by simpa using HKD.out)]; exact ho1, (bl_alloc HB.out _).trans hb1⟩
      · have hkd' : (z == kd) = false := by simpa using hkd
        have HKD := Lib.hid hkd
        clear hkd
        go_wp2_with (first
          | (refine wpList_loadA _ rfl 31 rfl Try.isAgg31 Try.sizeOf31 rfl (by with_reducible assumption) ?_)
          | (refine wpList_newA 7 rfl (.tmp 13) rfl rfl 31 rfl rfl rfl Try.sizeOf31 Try.zeroValue31 rfl (by with_reducible assumption) (by with_reducible assumption) (by simp [Act.put]) rfl ?_))
        go_roundg (l.length - (k + 1))
        case measure => omega
        case rel => exact ⟨k + 1, by omega, by go_num, by rw [HT.out, if_neg (by simpa using HKD.out), List.append_nil]; exact HOW.out.alloc _, bl_alloc HB.out _⟩
    · have hkl : ¬ (k : Int) < (l.length : Int) := by omega
      obtain rfl : k = l.length := by omega
      have HOW := Lib.hid hown
      have HB := Lib.hid hb
      clear hown hb hlt hk
      go_wp2
      go_ret
      refine ⟨⟨_, rfl, ?_⟩, HB.out⟩
      have := HOW.out
      rw [List.take_length] at this
      exact this
end Go.Proofs.Ytffpnbipacgidaa
