/-
  Layer 17 (passage): Sort.
-/
import Derived.Test.YtbjhemglecllmaaDoorMgC
import Derived.Laws.MakeOwn
import Derived.Test.YtbjhemglecllmaaDoorMgD
import Derived.Test.YtbjhemglecllmaaDoorLib
import Derived.Test.YtbjhemglecllmaaDoorMgA
namespace Go.Proofs.YtbjhemglecllmaaDoor
open Go.RowKit Go.Tw Go.Tw.Ord Go.Tw.Ps Go.Sort
def zPas : Array Value := #[.string ByteArray.empty, .string ByteArray.empty, .int .i64 0, .string ByteArray.empty, .string ByteArray.empty, .int .i64 0, .int .i64 0, .slice none 0 0]
theorem hmakeP (n : Nat) (hn : n ≤ 1000) (w : World) : (Instr.makeSlice 38 (.int .i64 0) (.int .i64 (n : Int))).run Tryd.prog w = .ok (.slice (some ⟨w.heap.size, 0, none⟩) 0 n) (w.alloc (.cells (madeCells zPas (n * 8)) 24)) := by
  obtain ⟨i, hi, hz, hs, hb⟩ : ∃ i, Tryd.prog.info? 24 = some i ∧ i.zero = some (.agg zPas) ∧ i.size = 8 ∧ i.bytes = 112 := by
    have h : (Tryd.prog.info? 24).map (fun i => (i.zero, i.size, i.bytes)) = some (some (.agg zPas), 8, 112) := by kernel_rfl
    cases hq : Tryd.prog.info? 24 with
    | none => rw [hq] at h; cases h
    | some i =>
      rw [hq] at h
      simp only [Option.map_some, Option.some.injEq, Prod.mk.injEq] at h
      exact ⟨i, rfl, h.1, h.2.1, h.2.2⟩
  have := run_make (P := Tryd.prog) w 38 24 i (.agg zPas) Tryd.underlying38 hi hz .i64 .i64 0 (n : Int) (Int.le_refl _) (by omega) (by rw [hb]; omega) (by omega)
  rw [hs] at this
  simpa [Value.cells] using this
theorem OwnSl.formS {α : Type} {T : Ty α} {e : TypeId} {B : Nat} {w : World} {v : Value} {l : List α} (h : OwnSl T e B w v l) (hl : 0 < l.length) : ∃ g cap, v = .slice (some ⟨g, 0, none⟩) l.length cap := by
  obtain ⟨css, h1, h2⟩ := h
  rcases h1.2 with ⟨_, h'⟩ | ⟨g, cap, cur, h, _⟩
  · omega
  · exact ⟨g, cap, h⟩
set_option maxRecDepth 100000 in
set_option maxHeartbeats 4000000 in
theorem sort_any (l : List Pas) (v : Value) (w : World) (h : SlIs (tPas eS) (· < w.heap.size) w v l) (hl : l.length < 60) (hsr : ∀ x ∈ l, x.src.length ≤ 1000000) :
    Calls Tryd.prog 21 #[v] w fun e w' => (∃ a c, e = .returned (.slice a l.length c) ∧ SlIs (tPas eS) (· < w'.heap.size) w' (.slice a l.length c) (sortP l)) ∧ Below w.heap.size w w' := by
  obtain ⟨ao, cp, b, o, rfl, q1, q2, ho⟩ := pas_row h
  unfold maxLen at q2
  have HO := Lib.hid ho
  have HSR := Lib.hid hsr
  clear h ho hsr
  have hmk := hmakeP l.length (by omega)
  have o0 : OwnSl (tPas eS) 24 w.heap.size (w.alloc (.cells (madeCells zPas (l.length * 8)) 24)) (.slice (some ⟨w.heap.size, 0, none⟩) 0 l.length) [] :=
    ⟨[], World.ownsRow_made w _ l.length (Nat.le_refl _) (by unfold maxLen; omega) (size_madeCells _ _), trivial⟩
  have HO0 := Lib.hid o0
  have HB0 := Lib.hid (bl_alloc (Below.refl w.heap.size w) (.cells (madeCells zPas (l.length * 8)) 24))
  clear o0
  go_enter Tryd.func21, Tryd.ntmps21
  go_wp2_with (fail)
  generalize w.alloc (.cells (madeCells zPas (l.length * 8)) 24) = w0 at HO0 HB0 ⊢
  clear hmk
  go_loopg [3, 11] l.length (fun gx sv i wr => ∃ (k g c : Nat), k + gx = l.length ∧ i = .int .i64 k ∧ sv = .slice (some ⟨g, 0, none⟩) k c ∧ OwnSl (tPas eS) 24 w.heap.size wr (.slice (some ⟨g, 0, none⟩) k c) (l.take k) ∧ Below w.heap.size w wr)
  case atStart => exact ⟨0, _, _, by omega, rfl, rfl, by rw [List.take_zero]; exact HO0.out, HB0.out⟩
  case round =>
    obtain ⟨k, g, c, hk, rfl, rfl, hown, hb⟩ := hrel
    have HOW := Lib.hid hown
    have HB := Lib.hid hb
    have HLX := Lib.hid hown.own_lt
    by_cases hlt : k < l.length
    · obtain ⟨rfl, -, hbk, hok, a, n, c2, hsl, hc⟩ := HO.out wr (.of_below hb) k hlt
      have ld := load_pas (x := l[k]) Tryd.prog hc
      have k0 : (0 : Int) ≤ (k : Int) := by omega
      have k1 : (k : Int) < (l.length : Int) := by omega
      have HT := Lib.hid (show l.take (k + 1) = l.take k ++ [l[k]] from List.take_succ_eq_append_getElem hlt)
      have hxl := HSR.out _ (List.getElem_mem hlt)
      generalize l[k] = x at ld hok hsl HT hxl
      obtain ⟨A, hA⟩ : ∃ A, (pCells x (.slice a n c2)).toArray = A := ⟨_, rfl⟩
      rw [hA] at ld
      have hs : A.size = 8 := by rw [← hA]; rfl
      have h1c : ∀ u ∈ A.toList, u.oneCell' = true := by rw [← hA]; exact pCells_one
      have hbx : PBox (wr.alloc (.cells A 24)) wr.heap.size A := heap_alloc_new _ _
      have ld2 := hbx.load hA
      have hb1 : Below wr.heap.size wr (wr.alloc (.cells A 24)) := bl_alloc (Below.refl _ _) _
      have HCP := Lib.hid (copied_any x a n c2 (wr.alloc (.cells A 24)) (hsl.keep (fun q hq => Nat.lt_of_lt_of_le hq (Nat.le_trans hb.size hb1.size)) (.of_below (hb1.mono hb.size))) hxl)
      rw [hA] at HCP
      have HOK := Lib.hid hok
      have HO1 := Lib.hid (HOW.out.alloc (.cells A 24))
      have HB1 := Lib.hid (HB.out.trans (hb1.mono HB.out.size))
      have htk : (l.take k).length = k := by rw [List.length_take]; omega
      have HTK := Lib.hid htk
      have HBS := Lib.hid hb1.size
      clear hA hc hsl hok hown hb hbk hb1 hbx htk hxl
      go_wp2_with (first
        | (refine wpList_loadA _ rfl 24 rfl Tryd.isAgg24 Tryd.sizeOf24 rfl (by with_reducible assumption) ?_)
        | (refine wpList_newA 5 rfl (.tmp 14) rfl rfl 24 rfl rfl rfl Tryd.sizeOf24 Tryd.zeroValue24 rfl (by with_reducible assumption) (by with_reducible assumption) (by simp [Act.put]) rfl ?_)
        | (go_at_call 46
           with_reducible refine HCP.out.mono ?_
           rintro e w3 ⟨⟨a3, n3, c3, rfl, ho3⟩, hb3⟩
           clear ld ld2 hs
           obtain ⟨A3, hA3⟩ : ∃ A, (pCells x (.slice a3 n3 c3)).toArray = A := ⟨_, rfl⟩
           have hs3 : A3.size = 8 := by rw [← hA3]; rfl
           have HA3 := Lib.hid hA3
           have HO3 := Lib.hid (HO1.out.below hb3)
           have HF3 := Lib.hid (ho3.fresh srcFlat)
           have HB3 := Lib.hid (HB1.out.trans (hb3.mono HB1.out.size))
           rw [hA3]
           clear ho3 hb3 hA3)
        | (refine wpList_buildA _ rfl 38 rfl Tryd.underlying38 Tryd.sizeOf24 Tryd.zeroValue24 (by decide) (by decide) rfl (by with_reducible assumption) ?_)
        | (at_builtin
           refine wpList_append_one (.tmp 15) (.tmp 18) rfl 38 rfl slPas (y := x) (S := fun q => (wr.alloc (.cells A 24)).heap.size ≤ q ∧ q < w3.heap.size) rfl HO3.out rfl (by rw [← HA3.out]; exact tPas_mk HOK.out HF3.out) (fun q hq => ⟨hq.2, fun e => by have := (HLX.out q e.symm).2; have := HBS.out; omega⟩) (small_bytes (k := 1001) (by rw [HTK.out]; omega) (by decide)) (by rw [HTK.out]; unfold maxLen; omega) HB3.out.size ?_
           intro v4 w4 ho4 hg4 hb4
           have HO4 := Lib.hid ho4
           have HB4 := Lib.hid (HB3.out.trans hb4)
           clear ho4 hg4 hb4))
      go_roundg (l.length - (k + 1))
      case measure => omega
      case rel =>
        have ho := HO4.out
        rw [← HT.out] at ho
        have hl2 : (l.take (k + 1)).length = k + 1 := by rw [List.length_take]; omega
        obtain ⟨g4, c4, hv4⟩ := OwnSl.formS ho (by omega)
        rw [hl2] at hv4
        exact ⟨k + 1, g4, c4, by omega, by go_num, hv4, hv4 ▸ ho, HB4.out⟩
    · obtain rfl : k = l.length := by omega
      have hkl : ¬ (l.length : Int) < (l.length : Int) := by omega
      rw [List.take_length] at hown
      have HSP := Lib.hid (sortStP_any l g c w.heap.size wr hown HB.out.size hl)
      clear hown hb HOW HLX
      go_wp2_with (go_at_call 47
                   with_reducible refine HSP.out.mono ?_
                   rintro e w5 ⟨rfl, hs5, hb5⟩
                   have HS5 := Lib.hid hs5
                   have HB5 := Lib.hid (HB.out.trans hb5)
                   clear hs5 hb5)
      go_ret
      exact ⟨⟨_, _, rfl, HS5.out⟩, HB5.out⟩
end Go.Proofs.YtbjhemglecllmaaDoor
/-
  Layer 17 (passage): the program's Of.
-/
namespace Go.Proofs.YtbjhemglecllmaaDoor
open Go.RowKit Go.Tw Go.Tw.Ord Go.Tw.Ps Go.Sort
set_option maxRecDepth 100000 in
set_option maxHeartbeats 1000000 in
theorem of_any (l : List Pas) (s : ByteArray) (v : Value) (w : World) (h1 : SlIs (tPas eS) (· < w.heap.size) w v l) (hl : l.length < 60) (hsr : ∀ x ∈ l, x.src.length ≤ 1000000) :
    Calls Tryd.prog 25 #[v, .string s] w fun e w' => (∃ v', e = .returned v' ∧ SlIs (tPas eS) (· < w'.heap.size) w' v' (ofP l s)) ∧ Below w.heap.size w w' := by
  obtain ⟨ao, cp, g, o, rfl, q1, q2, ho⟩ := pas_row h1
  unfold maxLen at q2
  have HO := Lib.hid ho
  have HTG := Lib.hid (tags_any l _ w h1)
  have HSRC := Lib.hid hsr
  clear h1 ho hsr
  by_cases hse : s = es
  · have e1 : s.toList.isEmpty = true := by rw [emp_iff]; simpa using hse
    have HSE := Lib.hid hse
    clear hse
    go_enter Tryd.func25, Tryd.ntmps25
    go_wp2
    go_ret
    exact ⟨⟨_, rfl, by unfold ofP; rw [if_pos HSE.out]; exact SlIs.nil⟩, Below.refl _ _⟩
  · have e1 : s.toList.isEmpty = false := by rw [emp_iff]; simpa using hse
    have HE := Lib.hid (show sortP (l.filter fun x => decide (ownP l x = s)) = ofP l s from by unfold ofP; rw [if_neg hse])
    obtain ⟨P, hP⟩ : ∃ P : Pas → Bool, (fun x => decide (ownP l x = s)) = P := ⟨_, rfl⟩
    have HP := Lib.hid (fun x => (congrFun hP x).symm)
    rw [hP] at HE
    clear hse hP
    go_enter Tryd.func25, Tryd.ntmps25
    go_wp2_with (go_at_call 51
                 with_reducible refine HTG.out.mono ?_
                 rintro e wt ⟨⟨rfl, hmt⟩, hbt⟩
                 have HMT := Lib.hid hmt
                 have HBT := Lib.hid hbt
                 clear hmt hbt)
    have hmb := HMT.out.lt
    go_loopg [6, 15] l.length (fun gx v i wo => ∃ k, k + gx = l.length ∧ i = .int .i64 (k : Nat) ∧ OwnSl (tPas eS) 24 wt.heap.size wo v ((l.take k).filter P) ∧ Below wt.heap.size wt wo)
    case atStart => exact ⟨0, by omega, rfl, OwnSl.nil _ _ _ _, Below.refl _ _⟩
    case round =>
      obtain ⟨wo, rfl⟩ : ∃ wo : World, wo = wr := ⟨_, rfl⟩
      obtain ⟨k, hk, rfl, hown, hb⟩ := hrel
      have hbw : Below w.heap.size w wo := bl_trans HBT.out hb
      by_cases hlt : k < l.length
      · obtain ⟨rfl, -, hbk, hok, ax, nx, cx, hsx, hc⟩ := HO.out wo (.of_below hbw) k hlt
        have HSX := Lib.hid (show ∀ w', Below wo.heap.size wo w' → SlIs tSrc (· < w.heap.size) w' (.slice ax nx cx) l[k].src from fun w' hw => hsx.keep (fun _ h => h) (SameOn.of_below (hw.mono hbw.size)))
        have HTK1 := Lib.hid (show (l.take (k + 1)).filter P = (l.take k).filter P ++ (if P l[k] = true then [l[k]] else []) from by
          rw [List.take_succ_eq_append_getElem hlt, List.filter_append]
          congr 1
          by_cases h : P l[k] = true <;> simp [h])
        have hOl : ((l.take k).filter P).length < 1000 := Nat.lt_of_le_of_lt (List.length_filter_le _ _) (by rw [List.length_take]; omega)
        generalize l[k] = x at HTK1 hc hok HSX
        generalize (l.take k).filter P = O at HTK1 hown hOl
        obtain ⟨A, hA⟩ : ∃ A, (pCells x (.slice ax nx cx)).toArray = A := ⟨_, rfl⟩
        have HA := Lib.hid hA
        have HOK := Lib.hid hok
        have HB := Lib.hid hb
        have HOW := Lib.hid hown
        have hs1 : A.size = 8 := by rw [← hA]; rfl
        have h1c : ∀ u ∈ A.toList, u.oneCell' = true := by rw [← hA]; exact pCells_one
        have ld0 : Sem.run Tryd.prog (loadCellsFrom ⟨g, o + k * 8, none⟩ 0 8 #[]) wo = .ok A wo := by
          rw [← hA]
          exact load_pas _ fun jj hjj => hc jj hjj
        have hba : Below wo.heap.size wo (wo.alloc (.cells A 24)) := bl_alloc (Below.refl _ _) _
        have HBA := Lib.hid hba
        have n0 : PBox (wo.alloc (.cells A 24)) wo.heap.size A := heap_alloc_new _ _
        have HNB := Lib.hid n0
        have ldb := n0.load hA
        obtain ⟨c, hcc⟩ : ∃ c, ownP l x = c := ⟨_, rfl⟩
        have HBC := Lib.hid (owner_any l x (.slice ax nx cx) w.heap.size l.length (wo.alloc (.cells A 24)) ((HMT.out.below hb).alloc _))
        rw [hA, hcc] at HBC
        have HPX := Lib.hid (show P x = decide (c = s) from by rw [HP.out, hcc])
        have HSZ := Lib.hid (show w.heap.size ≤ wo.heap.size from hbw.size)
        have HWT := Lib.hid (show w.heap.size ≤ wt.heap.size from HBT.out.size)
        have k0 : (0 : Int) ≤ (k : Int) := by omega
        have k1 : (k : Int) < (l.length : Int) := by omega
        clear hA hc hok hb hown hbk hsx hcc n0 hba hbw
        by_cases d2 : c = s
        · have e2 : (c.toList == s.toList) = true := by rw [eq_str]; simpa using d2
          have HNO := Lib.hid (show (l.take (k + 1)).filter P = O ++ [x] from by rw [HTK1.out, HPX.out, if_pos (by simpa using d2)])
          clear d2
          go_wp2_with (first
            | (refine wpList_loadA _ rfl 24 rfl Tryd.isAgg24 Tryd.sizeOf24 rfl (by with_reducible assumption) ?_)
            | (refine wpList_newA 8 rfl (.tmp 18) rfl rfl 24 rfl rfl rfl Tryd.sizeOf24 Tryd.zeroValue24 rfl (by with_reducible assumption) (by with_reducible assumption) (by simp [Act.put]) rfl ?_)
            | (go_at_call 52
               with_reducible refine HBC.out.mono ?_
               rintro e w1 ⟨rfl, hg1⟩
               have HG1 := Lib.hid (bl_trans HBA.out hg1.below)
               have ld1 := PBox.load (HNB.out.step hg1.below) HA.out
               clear hg1
               have HW2 := Lib.hid (HOW.out.below HG1.out)
               have hz2 : wt.heap.size ≤ w1.heap.size := Nat.le_trans HB.out.size HG1.out.size
               have hb3 : (O.length + 1) * 112 ≤ 140737488355328 := by omega
               have hb4 : O.length + 1 ≤ maxLen := by unfold maxLen; omega
               clear ld0 ldb)
            | (refine wpList_buildA _ rfl 38 rfl Tryd.underlying38 Tryd.sizeOf24 Tryd.zeroValue24 (by decide) (by decide) rfl (by with_reducible assumption) ?_)
            | (at_builtin
               refine wpList_append_one (.tmp 24) (.tmp 26) rfl 38 rfl slPas rfl HW2.out rfl (S := (· < w.heap.size)) (y := x) (by rw [← HA.out]; exact tPas_mk HOK.out (HSX.out _ HG1.out)) (fun k hk => ⟨Nat.lt_of_lt_of_le hk (Nat.le_trans HWT.out hz2), fun e => Nat.lt_irrefl _ (Nat.lt_of_lt_of_le hk (Nat.le_trans HWT.out (HW2.out.own_lt k e.symm).1))⟩) hb3 hb4 hz2 ?_
               intro v6 w6 ho6 hg6 hb6
               have HO6 := Lib.hid ho6
               have HB6 := Lib.hid (Below.trans (bl_trans HB.out HG1.out) hb6)
               clear ho6 hg6 hb6 ld1))
          go_roundg (l.length - (k + 1))
          case measure => omega
          case rel => exact ⟨k + 1, by omega, by go_num, HNO.out ▸ HO6.out, HB6.out⟩
        · have e2 : (c.toList == s.toList) = false := by rw [eq_str]; simpa using d2
          have HNO := Lib.hid (show (l.take (k + 1)).filter P = O from by rw [HTK1.out, HPX.out]; simp [d2])
          clear d2
          go_wp2_with (first
            | (refine wpList_loadA _ rfl 24 rfl Tryd.isAgg24 Tryd.sizeOf24 rfl (by with_reducible assumption) ?_)
            | (refine wpList_newA 8 rfl (.tmp 18) rfl rfl 24 rfl rfl rfl Tryd.sizeOf24 Tryd.zeroValue24 rfl (by with_reducible assumption) (by with_reducible assumption) (by simp [Act.put]) rfl ?_)
            | (go_at_call 52
               with_reducible refine HBC.out.mono ?_
               rintro e w1 ⟨rfl, hg1⟩
               have HG1 := Lib.hid (bl_trans HBA.out hg1.below)
               have ld1 := PBox.load (HNB.out.step hg1.below) HA.out
               clear hg1))
          go_roundg (l.length - (k + 1))
          case measure => omega
          case rel => exact ⟨k + 1, by omega, by go_num, HNO.out ▸ HOW.out.below HG1.out, bl_trans HB.out HG1.out⟩
      · obtain rfl : k = l.length := by omega
        have hkl : ¬ (l.length : Int) < (l.length : Int) := by omega
        have HBW := Lib.hid hbw
        rw [List.take_length] at hown
        have HSR := Lib.hid (sort_any (l.filter P) _ wo hown.sl (Nat.lt_of_le_of_lt (List.length_filter_le _ _) hl) (fun x hx => HSRC.out x (List.mem_filter.1 hx).1))
        rw [HE.out] at HSR
        clear hlt hk hb hown hbw
        go_wp2_with (go_at_call 21
                     with_reducible refine HSR.out.mono ?_
                     rintro e w5 ⟨⟨a5, c5, rfl, hs5⟩, hb5⟩
                     have HS5 := Lib.hid hs5
                     have HB5 := Lib.hid (bl_trans HBW.out hb5)
                     clear hs5 hb5)
        go_ret
        exact ⟨⟨_, rfl, HS5.out⟩, HB5.out⟩
end Go.Proofs.YtbjhemglecllmaaDoor
/-
  Layer 17 (passage): the reference's Of.
-/
namespace Go.Proofs.YtbjhemglecllmaaDoor
open Go.RowKit Go.Tw Go.Tw.Ord Go.Tw.Ps Go.Sort
set_option maxRecDepth 100000 in
set_option maxHeartbeats 1000000 in
theorem ofR_any (l : List Pas) (s : ByteArray) (v : Value) (w : World) (h1 : SlIs (tPas eS) (· < w.heap.size) w v l) (hl : l.length ≤ 1000) :
    Calls Tryd.prog 26 #[v, .string s] w fun e w' => (∃ v', e = .returned v' ∧ SlIs (tPas eS) (· < w'.heap.size) w' v' (ofP l s)) ∧ Below w.heap.size w w' := by
  obtain ⟨ao, cp, g, o, rfl, q1, q2, ho⟩ := pas_row h1
  unfold maxLen at q2
  have HO := Lib.hid ho
  have HS := Lib.hid h1
  obtain ⟨P, hP⟩ : ∃ P : Pas → Bool, (fun x => !decide (ownP l x = es) && decide (ownP l x = s)) = P := ⟨_, rfl⟩
  have HP := Lib.hid (fun x => (congrFun hP x).symm)
  clear h1 ho hP
  go_enter Tryd.func26, Tryd.ntmps26
  go_wp2
  go_loopg [5, 6] l.length (fun gx v i wo => ∃ k, k + gx = l.length ∧ i = .int .i64 (k : Nat) ∧ OwnSl (tPas eS) 24 w.heap.size wo v ((l.take k).filter P) ∧ Below w.heap.size w wo)
  case atStart => exact ⟨0, by omega, rfl, OwnSl.nil _ _ _ _, Below.refl _ _⟩
  case round =>
    obtain ⟨wo, rfl⟩ : ∃ wo : World, wo = wr := ⟨_, rfl⟩
    obtain ⟨k, hk, rfl, hown, hb⟩ := hrel
    by_cases hlt : k < l.length
    · obtain ⟨rfl, -, hbk, hok, ax, nx, cx, hsx, hc⟩ := HO.out wo (.of_below hb) k hlt
      have HSX := Lib.hid (show ∀ w', Below wo.heap.size wo w' → SlIs tSrc (· < w.heap.size) w' (.slice ax nx cx) l[k].src from fun w' hw => hsx.keep (fun _ h => h) (SameOn.of_below (hw.mono hb.size)))
      have HTK1 := Lib.hid (show (l.take (k + 1)).filter P = (l.take k).filter P ++ (if P l[k] = true then [l[k]] else []) from by
        rw [List.take_succ_eq_append_getElem hlt, List.filter_append]
        congr 1
        by_cases h : P l[k] = true <;> simp [h])
      have hOl : ((l.take k).filter P).length < 1000 := Nat.lt_of_le_of_lt (List.length_filter_le _ _) (by rw [List.length_take]; omega)
      generalize l[k] = x at HTK1 hc hok HSX
      generalize (l.take k).filter P = O at HTK1 hown hOl
      obtain ⟨A, hA⟩ : ∃ A, (pCells x (.slice ax nx cx)).toArray = A := ⟨_, rfl⟩
      have HA := Lib.hid hA
      have HOK := Lib.hid hok
      have HB := Lib.hid hb
      have HOW := Lib.hid hown
      have LDW := Lib.hid (show ∀ w', Below wo.heap.size wo w' → Sem.run Tryd.prog (loadCellsFrom ⟨g, o + k * 8, none⟩ 0 8 #[]) w' = .ok A w' from fun w' hw => by
        rw [← HA.out]
        exact load_pas _ fun jj hjj => (hw.cell (p := ⟨g, o + k * 8 + jj, none⟩) (Nat.lt_of_lt_of_le hbk hb.size)).trans (hc jj hjj))
      have hs1 : A.size = 8 := by rw [← hA]; rfl
      have h1c : ∀ u ∈ A.toList, u.oneCell' = true := by rw [← hA]; exact pCells_one
      obtain ⟨c, hcc⟩ : ∃ c, ownP l x = c := ⟨_, rfl⟩
      have HBC := Lib.hid (belongsR_any l x _ (.slice ax nx cx) wo (HS.out.step hb) hl)
      rw [hA, hcc] at HBC
      have HPX := Lib.hid (show P x = (!decide (c = es) && decide (c = s)) from by rw [HP.out, hcc])
      have ld0 := LDW.out wo (Below.refl _ _)
      have k0 : (0 : Int) ≤ (k : Int) := by omega
      have k1 : (k : Int) < (l.length : Int) := by omega
      clear hA hc hok hb hown hbk hsx hcc
      by_cases d1 : c = es
      · have e1 : c.toList.isEmpty = true := by rw [emp_iff]; simpa using d1
        have HNO := Lib.hid (show (l.take (k + 1)).filter P = O from by rw [HTK1.out, HPX.out]; simp [d1])
        clear d1
        go_wp2_with (first
          | (refine wpList_loadA _ rfl 24 rfl Tryd.isAgg24 Tryd.sizeOf24 rfl (by with_reducible assumption) ?_)
          | (go_at_call 53
             with_reducible refine HBC.out.mono ?_
             rintro e w1 ⟨rfl, hg1⟩
             have HG1 := Lib.hid hg1.below
             have ld1 := LDW.out w1 HG1.out
             clear hg1 ld0))
        go_roundg (l.length - (k + 1))
        case measure => omega
        case rel => exact ⟨k + 1, by omega, by go_num, HNO.out ▸ HOW.out.below HG1.out, bl_trans HB.out HG1.out⟩
      · have e1 : c.toList.isEmpty = false := by rw [emp_iff]; simpa using d1
        by_cases d2 : c = s
        · have e2 : (c.toList == s.toList) = true := by rw [eq_str]; simpa using d2
          have HNO := Lib.hid (show (l.take (k + 1)).filter P = O ++ [x] from by rw [HTK1.out, HPX.out, if_pos (by simp only [d2]; simp [← d2, d1])])
          clear d1 d2
          go_wp2_with (first
            | (refine wpList_loadA _ rfl 24 rfl Tryd.isAgg24 Tryd.sizeOf24 rfl (by with_reducible assumption) ?_)
            | (go_at_call 53
               with_reducible refine HBC.out.mono ?_
               rintro e w1 ⟨rfl, hg1⟩
               have HG1 := Lib.hid hg1.below
               have ld1 := LDW.out w1 HG1.out
               clear hg1 ld0
               have HW2 := Lib.hid (HOW.out.below HG1.out)
               have hz2 : w.heap.size ≤ w1.heap.size := Nat.le_trans HB.out.size HG1.out.size
               have hb3 : (O.length + 1) * 112 ≤ 140737488355328 := by omega
               have hb4 : O.length + 1 ≤ maxLen := by unfold maxLen; omega)
            | (refine wpList_buildA _ rfl 38 rfl Tryd.underlying38 Tryd.sizeOf24 Tryd.zeroValue24 (by decide) (by decide) rfl (by with_reducible assumption) ?_)
            | (at_builtin
               refine wpList_append_one (.tmp 27) (.tmp 32) rfl 38 rfl slPas rfl HW2.out rfl (S := (· < w.heap.size)) (y := x) (by rw [← HA.out]; exact tPas_mk HOK.out (HSX.out _ HG1.out)) (fun k hk => ⟨Nat.lt_of_lt_of_le hk hz2, fun e => Nat.lt_irrefl _ (Nat.lt_of_lt_of_le hk (HW2.out.own_lt k e.symm).1)⟩) hb3 hb4 hz2 ?_
               intro v6 w6 ho6 hg6 hb6
               have HO6 := Lib.hid ho6
               have HB6 := Lib.hid (Below.trans (bl_trans HB.out HG1.out) hb6)
               clear ho6 hg6 hb6 ld1))
          go_roundg (l.length - (k + 1))
          case measure => omega
          case rel => exact ⟨k + 1, by omega, by go_num, HNO.out ▸ HO6.out, HB6.out⟩
        · have e2 : (c.toList == s.toList) = false := by rw [eq_str]; simpa using d2
          have HNO := Lib.hid (show (l.take (k + 1)).filter P = O from by rw [HTK1.out, HPX.out]; simp [d2])
          clear d1 d2
          go_wp2_with (first
          | (refine wpList_loadA _ rfl 24 rfl Tryd.isAgg24 Tryd.sizeOf24 rfl (by with_reducible assumption) ?_)
          | (go_at_call 53
             with_reducible refine HBC.out.mono ?_
             rintro e w1 ⟨rfl, hg1⟩
             have HG1 := Lib.hid hg1.below
             have ld1 := LDW.out w1 HG1.out
             clear hg1 ld0))
          go_roundg (l.length - (k + 1))
          case measure => omega
          case rel => exact ⟨k + 1, by omega, by go_num, HNO.out ▸ HOW.out.below HG1.out, bl_trans HB.out HG1.out⟩
    · obtain rfl : k = l.length := by omega
      have hkl : ¬ (l.length : Int) < (l.length : Int) := by omega
      have HB := Lib.hid hb
      rw [List.take_length] at hown
      have HSR := Lib.hid (sortR_any (l.filter P) _ wo hown.sl (Nat.le_trans (List.length_filter_le _ _) hl))
      have HE := Lib.hid (show sortP (l.filter P) = ofP l s from by
        unfold ofP
        by_cases d : s = es
        · rw [if_pos d, show l.filter P = [] from List.filter_eq_nil_iff.2 (fun a _ => by
            rw [HP.out]
            subst d
            by_cases q : ownP l a = es <;> simp [q])]
          exact List.eq_nil_of_length_eq_zero (sortP_len [])
        · rw [if_neg d]
          congr 1
          refine List.filter_congr fun a _ => ?_
          rw [HP.out]
          by_cases q : ownP l a = s
          · simp [q, d]
          · simp [q])
      rw [HE.out] at HSR
      clear hlt hk hb hown
      go_wp2_with (go_at_call 22
                   with_reducible refine HSR.out.mono ?_
                   rintro e w5 ⟨⟨v5, rfl, hs5⟩, hb5⟩
                   have HS5 := Lib.hid hs5
                   have HB5 := Lib.hid (bl_trans HB.out hb5)
                   clear hs5 hb5)
      go_ret
      exact ⟨⟨_, rfl, HS5.out⟩, HB5.out⟩
end Go.Proofs.YtbjhemglecllmaaDoor
/-
  Slices of strings: the cells. No program in sight.
-/
namespace Go.Tw
open Go.RowKit
theorem strs_open {S : Nat → Prop} {w : World} {v : Value} {l : List ByteArray} (h : SlIs tStr S w v l) :
    ∃ ao cap b off, v = .slice ao l.length cap ∧ l.length ≤ cap ∧ cap ≤ maxLen ∧ ∀ w', SameOn S w w' → ∀ k (_ : k < l.length), ao = some ⟨b, off, none⟩ ∧ S b ∧ b < w.heap.size ∧
      w'.cell? ⟨b, off + k, none⟩ = some (.string l[k]) ∧ l[k].size ≤ maxLen := by
  obtain ⟨ao, cap, b, off, hv, h1, h2, h3⟩ := h.openS
  refine ⟨ao, cap, b, off, hv, h1, h2, fun w' hw k hk => ?_⟩
  obtain ⟨g1, g2, g2', cs, g3, rfl, g5⟩ := h3 w' hw k hk
  have := g3 0 (by decide)
  simp [tStr] at this
  exact ⟨g1, g2, g2', this, g5⟩
end Go.Tw
/-
  Layer 17 (passage): the reference's SameTexts, Insert.
-/
namespace Go.Proofs.YtbjhemglecllmaaDoor
open Go.RowKit Go.Tw Go.Tw.Ord Go.Tw.Ps Go.Sort
theorem slStr : SlT Tryd.prog 46 9 1 16 := SlT.of (z := .string ByteArray.empty) Tryd.underlying46 (by kernel_rfl) rfl (by decide)
set_option maxHeartbeats 1000000 in
theorem sameTexts_any (l m : List ByteArray) (va vb : Value) (w : World) (ha : SlIs tStr (· < w.heap.size) w va l) (hb : SlIs tStr (· < w.heap.size) w vb m) :
    Calls Tryd.prog 27 #[va, vb] w fun e w' => e = .returned (.bool (decide (l = m))) ∧ Below w.heap.size w w' := by
  obtain ⟨aa, capa, ba, offa, rfl, hla, hma, hoa⟩ := strs_open ha
  obtain ⟨ab, capb, bb, offb, rfl, hlb, hmb, hob⟩ := strs_open hb
  unfold maxLen at hma hmb
  have HOA := Lib.hid hoa
  have HOB := Lib.hid hob
  clear ha hb hoa hob
  go_enter Tryd.func27, Tryd.ntmps27
  by_cases hlen : (l.length : Int) = (m.length : Int)
  · have HLE := Lib.hid (show l.length = m.length by omega)
    go_wp2
    go_loopg [5] l.length (fun g i wr => ∃ k : Nat, k + g = l.length ∧ i = .int .i64 k ∧ Hid (l.take k = m.take k) ∧ Below w.heap.size w wr)
    case atStart => exact ⟨0, by omega, rfl, Lib.hid (by simp), Below.refl _ _⟩
    case round =>
      obtain ⟨k, hk, rfl, HT, hb1⟩ := hrel
      by_cases hlt : k < l.length
      · have hlt2 : k < m.length := by have := HLE.out; omega
        obtain ⟨rfl, -, hx1, c0, -⟩ := HOA.out wr (.of_below hb1) k hlt
        obtain ⟨rfl, -, hx2, d0, -⟩ := HOB.out wr (.of_below hb1) k hlt2
        have HT1 := Lib.hid (show l.take (k + 1) = l.take k ++ [l[k]] from List.take_succ_eq_append_getElem hlt)
        have HT2 := Lib.hid (show m.take (k + 1) = m.take k ++ [m[k]] from List.take_succ_eq_append_getElem hlt2)
        have HG1 := Lib.hid (show l[k]? = some l[k] by simp [hlt])
        have HG2 := Lib.hid (show m[k]? = some m[k] by simp [hlt2])
        generalize l[k] = x at HT1 HG1 c0
        generalize m[k] = y at HT2 HG2 d0
        have hs1 := hb1.size
        have k0 : (0 : Int) ≤ (k : Int) := by omega
        have k1 : (k : Int) < (l.length : Int) := by omega
        have k2 : (k : Int) < (m.length : Int) := by omega
        by_cases hxy : x = y
        · have e1 : (x.toList == y.toList) = true := by rw [eq_str]; simpa using hxy
          have HXY := Lib.hid hxy
          clear hxy
          go_wp2_with (go_quiet (fail))
          go_roundg (l.length - (k + 1))
          case measure => omega
          case rel => exact ⟨k + 1, by omega, by go_num, Lib.hid (by rw [HT1.out, HT2.out, HT.out, HXY.out]), bl_drewN hb1 _⟩
        · have e1 : (x.toList == y.toList) = false := by rw [eq_str]; simpa using hxy
          have HXY := Lib.hid hxy
          clear hxy
          go_wp2_with (go_quiet (fail))
          go_ret
          refine ⟨ret_bool ?_, bl_drewN hb1 _⟩
          rw [decide_eq_false_iff_not]
          rintro rfl
          exact HXY.out (Option.some.inj (HG1.out.symm.trans HG2.out))
      · obtain rfl : k = l.length := by omega
        go_wp2
        go_ret
        refine ⟨ret_bool ?_, hb1⟩
        have h := HT.out
        rw [List.take_length, HLE.out, List.take_length] at h
        simp [h]
  · go_wp2
    go_ret
    refine ⟨ret_bool ?_, Below.refl _ _⟩
    rw [decide_eq_false_iff_not]
    rintro rfl
    exact hlen rfl
end Go.Proofs.YtbjhemglecllmaaDoor
/-
  Layer 17 (passage): the reference's Insert (of layer 07).
-/
namespace Go.Tw.Ps
open Go.RowKit Go.Sort Go.Tw.Ord
abbrev AscS (l : List ByteArray) : Prop := l.Pairwise fun a b => cmpS a b < 0
theorem cmpS_lt {a b : ByteArray} : cmpS a b < 0 ↔ ltL (codes a) (codes b) = true := by
  unfold cmpS
  by_cases h : ltL (codes a) (codes b) = true
  · rw [if_pos h]; simp [h]
  · rw [if_neg h]
    by_cases e : a = b
    · subst e; rw [if_pos rfl, ltL_irrefl]; simp
    · rw [if_neg e]; simp [h]
theorem cmpS_ltt {a b c : ByteArray} (h1 : cmpS a b < 0) (h2 : cmpS b c < 0) : cmpS a c < 0 := by
  have h := cmpS_cmp.trans a b c (by omega) (by omega)
  have n : cmpS a c ≠ 0 := fun e => by
    have := cmpS_zero e
    subst this
    have := cmpS_cmp.anti a b
    omega
  omega
theorem cmpS_gt {a b : ByteArray} (h : ltL (codes a) (codes b) = false) (hn : b ≠ a) : cmpS b a < 0 := by
  have h1 : ¬ cmpS a b < 0 := fun q => by rw [cmpS_lt, h] at q; exact absurd q (by simp)
  have h2 : cmpS a b ≠ 0 := fun q => hn (cmpS_zero q).symm
  have := cmpS_cmp.anti a b
  omega
structure InsI (l : List ByteArray) (s : ByteArray) (k : Nat) (d : Bool) (O : List ByteArray) : Prop where
  len : O.length ≤ k + 1
  no : d = false → O = l.take k ∧ ∀ u ∈ l.take k, cmpS u s < 0
  yes : d = true → AscS O ∧ (∀ u, u ∈ O ↔ u = s ∨ u ∈ l.take k) ∧ ∃ u ∈ l.take k, cmpS s u < 0
theorem asc_snoc {O : List ByteArray} {x : ByteArray} (h : AscS O) (hx : ∀ u ∈ O, cmpS u x < 0) : AscS (O ++ [x]) := by
  unfold AscS
  rw [List.pairwise_append]
  exact ⟨h, List.pairwise_singleton _ _, fun a ha b hb => by simp at hb; subst hb; exact hx a ha⟩
theorem asc_take {l : List ByteArray} {k : Nat} {x : ByteArray} (h : AscS l) (e : l.take (k + 1) = l.take k ++ [x]) : ∀ u ∈ l.take k, cmpS u x < 0 := fun u hu => by
  have h1 : (l.take (k + 1)).Pairwise (fun a b => cmpS a b < 0) := List.Pairwise.sublist (List.take_sublist _ _) h
  rw [e, List.pairwise_append] at h1
  exact h1.2.2 u hu x (by simp)
theorem InsI.step_yes {l : List ByteArray} {s x : ByteArray} {k : Nat} {O : List ByteArray} (h : InsI l s k true O) (ha : AscS l) (e : l.take (k + 1) = l.take k ++ [x]) : InsI l s (k + 1) true (O ++ [x]) := by
  obtain ⟨h1, h2, u0, h3, h4⟩ := h.yes rfl
  have hx := asc_take ha e
  refine ⟨by rw [List.length_append]; have := h.len; simp; omega, fun q => by simp at q, fun _ => ⟨asc_snoc h1 fun u hu => ?_, fun u => ?_, u0, ?_, h4⟩⟩
  · rcases (h2 u).1 hu with rfl | hu
    · exact cmpS_ltt h4 (hx _ h3)
    · exact hx u hu
  · rw [e, List.mem_append, List.mem_append, h2, or_assoc]
  · rw [e]; exact List.mem_append_left _ h3
theorem InsI.step_at {l : List ByteArray} {s x : ByteArray} {k : Nat} {O : List ByteArray} (h : InsI l s k false O) (ha : AscS l) (e : l.take (k + 1) = l.take k ++ [x]) (hb : ltL (codes s) (codes x) = true) : InsI l s (k + 1) true ((O ++ [s]) ++ [x]) := by
  obtain ⟨rfl, h2⟩ := h.no rfl
  have hx := asc_take ha e
  have hsx : cmpS s x < 0 := cmpS_lt.2 hb
  have hk : AscS (l.take k) := List.Pairwise.sublist (List.take_sublist _ _) ha
  refine ⟨by rw [List.length_append, List.length_append, List.length_take]; simp; omega, fun q => by simp at q, fun _ => ⟨asc_snoc (asc_snoc hk h2) fun u hu => ?_, fun u => ?_, x, by rw [e]; simp, hsx⟩⟩
  · rcases List.mem_append.1 hu with hu | hu
    · exact hx u hu
    · simp at hu; subst hu; exact hsx
  · rw [e]; simp only [List.mem_append, List.mem_singleton]
    constructor
    · rintro ((h | h) | h)
      · exact Or.inr (Or.inl h)
      · exact Or.inl h
      · exact Or.inr (Or.inr h)
    · rintro (h | h | h)
      · exact Or.inl (Or.inr h)
      · exact Or.inl (Or.inl h)
      · exact Or.inr h
theorem InsI.step_no {l : List ByteArray} {s x : ByteArray} {k : Nat} {O : List ByteArray} (h : InsI l s k false O) (e : l.take (k + 1) = l.take k ++ [x]) (hb : ltL (codes s) (codes x) = false) (hn : x ≠ s) : InsI l s (k + 1) false (O ++ [x]) := by
  obtain ⟨rfl, h2⟩ := h.no rfl
  refine ⟨by rw [List.length_append, List.length_take]; simp; omega, fun _ => ⟨e.symm, fun u hu => ?_⟩, fun q => by simp at q⟩
  rw [e] at hu
  rcases List.mem_append.1 hu with hu | hu
  · exact h2 u hu
  · simp at hu; subst hu; exact cmpS_gt hb hn
end Go.Tw.Ps
namespace Go.Proofs.YtbjhemglecllmaaDoor
open Go.RowKit Go.Tw Go.Tw.Ord Go.Tw.Ps Go.Sort
set_option maxRecDepth 100000 in
set_option maxHeartbeats 4000000 in
theorem insertR_any (l : List ByteArray) (s : ByteArray) (v : Value) (w : World) (h1 : SlIs tStr (· < w.heap.size) w v l) (ha : AscS l) (hl : l.length ≤ 1000) (hs : s.size ≤ maxLen) :
    Calls Tryd.prog 55 #[v, .string s] w fun e w' => (∃ v', e = .returned v' ∧ ∃ O, AscS O ∧ (∀ u, u ∈ O ↔ u = s ∨ u ∈ l) ∧ O.length ≤ l.length + 1 ∧ SlIs tStr (· < w'.heap.size) w' v' O) ∧ Below w.heap.size w w' := by
  have HS := Lib.hid h1
  obtain ⟨ao, cap, b, off, rfl, hla, hma, ho⟩ := strs_open h1
  unfold maxLen at hma
  have HO := Lib.hid ho
  have HA := Lib.hid ha
  have HSZ := Lib.hid hs
  clear h1 ho ha hs
  go_enter Tryd.func55, Tryd.ntmps55
  go_wp2
  go_loopg [5, 6, 7] l.length (fun gx vo vd i wo => ∃ (k : Nat) (d : Bool) (O : List ByteArray), k + gx = l.length ∧ vd = .bool d ∧ i = .int .i64 k ∧ Hid (InsI l s k d O) ∧ OwnSl tStr 9 w.heap.size wo vo O ∧ Below w.heap.size w wo)
  case atStart => exact ⟨0, false, [], by omega, rfl, rfl, Lib.hid ⟨by simp, fun _ => ⟨by simp, fun u hu => by simp at hu⟩, fun h => by simp at h⟩, OwnSl.nil _ _ _ _, Below.refl _ _⟩
  case round =>
    obtain ⟨wo, rfl⟩ : ∃ wo : World, wo = wr := ⟨_, rfl⟩
    obtain ⟨k, d, O, hk, rfl, rfl, HI, hown, hb⟩ := hrel
    have hOl : O.length ≤ k + 1 := HI.out.len
    have HZ := Lib.hid hb.size
    have HB := Lib.hid hb
    have HOW := Lib.hid hown
    by_cases hlt : k < l.length
    · obtain ⟨rfl, -, hbk, hc, hsz⟩ := HO.out wo (.of_below hb) k hlt
      have HTK := Lib.hid (show l.take (k + 1) = l.take k ++ [l[k]] from List.take_succ_eq_append_getElem hlt)
      have HM := Lib.hid (show l[k] ∈ l from List.getElem_mem hlt)
      generalize l[k] = x at HTK hc hsz HM
      have HXZ := Lib.hid hsz
      have HC := Lib.hid (show ∀ w', Below wo.heap.size wo w' → w'.cell? ⟨b, off + k, none⟩ = some (.string x) from fun w' hw => (hw.cell (p := ⟨b, off + k, none⟩) (Nat.lt_of_lt_of_le hbk hb.size)).trans hc)
      have k0 : (0 : Int) ≤ (k : Int) := by omega
      have k1 : (k : Int) < (l.length : Int) := by omega
      have HBK := Lib.hid hbk
      clear hb hown hbk hsz
      by_cases hxs : x = s
      · have e1 : (x.toList == s.toList) = true := by rw [eq_str]; simpa using hxs
        have HXS := Lib.hid hxs
        clear hxs
        go_wp2
        go_ret
        exact ⟨⟨_, rfl, l, HA.out, fun u => ⟨Or.inr, fun h => h.elim (fun h => by rw [h, ← HXS.out]; exact HM.out) id⟩, by omega, HS.out.step HB.out⟩, HB.out⟩
      · have e1 : (x.toList == s.toList) = false := by rw [eq_str]; simpa using hxs
        have HXS := Lib.hid hxs
        clear hxs
        cases d with
        | true =>
          go_wp2_with (first | (at_builtin
                                refine wpList_append_one (.tmp 35) (.tmp 40) rfl 46 rfl slStr rfl HOW.out rfl (S := fun _ => False) (y := x) ⟨rfl, HXZ.out⟩ (fun _ h => h.elim) (by first | omega | (simp; omega)) (by unfold maxLen; first | omega | (simp; omega)) (by first | exact HZ.out | exact HZ2.out) ?_
                                intro v6 wv6 ho hg hb
                                have Hv6 := Lib.hid ho
                                have Bv6 := Lib.hid hb
                                have HZ2 := Lib.hid hb.size
                                clear ho hg hb))
          go_roundg (l.length - (k + 1))
          case measure => omega
          case rel => exact ⟨k + 1, true, O ++ [x], by omega, rfl, by go_num, Lib.hid (HI.out.step_yes HA.out HTK.out), Hv6.out, HB.out.trans Bv6.out⟩
        | false =>
          obtain ⟨c, hcc⟩ : ∃ c, ltL (codes s) (codes x) = c := ⟨_, rfl⟩
          have HBF := Lib.hid (Before_gr s x wo HSZ.out HXZ.out)
          rw [hcc] at HBF
          have HCC := Lib.hid hcc
          have c0 := HC.out wo (Below.refl _ _)
          clear hcc hc
          cases c with
          | true =>
            go_wp2_with (first
              | (go_at_call 32
                 with_reducible refine HBF.out.mono ?_
                 rintro e w1 ⟨rfl, hg1⟩
                 have HG1 := Lib.hid hg1.below
                 have c1 := HC.out w1 HG1.out
                 have HO1 := Lib.hid (HOW.out.below HG1.out)
                 have HZ1 := Lib.hid (Nat.le_trans HZ.out HG1.out.size)
                 have HC2 := Lib.hid (show ∀ w', Below w.heap.size w1 w' → w'.cell? ⟨b, off + k, none⟩ = some (.string x) from fun w' hw => (hw.cell (p := ⟨b, off + k, none⟩) HBK.out).trans (HC.out w1 HG1.out))
                 clear hg1 c0)
              | (at_builtin
                 refine wpList_append_one (.tmp 31) (.tmp 33) rfl 46 rfl slStr rfl HO1.out rfl (S := fun _ => False) (y := s) ⟨rfl, HSZ.out⟩ (fun _ h => h.elim) (by omega) (by unfold maxLen; omega) HZ1.out ?_
                 intro v2 w2 ho2 hg2 hb2
                 have HO2 := Lib.hid ho2
                 have HB2 := Lib.hid (Below.trans (HB.out.trans (HG1.out.mono HZ.out)) hb2)
                 have c2 := HC2.out w2 hb2
                 clear ho2 hg2 hb2 c1)
              | (at_builtin
                 refine wpList_append_one (.tmp 35) (.tmp 40) rfl 46 rfl slStr rfl HO2.out rfl (S := fun _ => False) (y := x) ⟨rfl, HXZ.out⟩ (fun _ h => h.elim) (by simp; omega) (by unfold maxLen; simp; omega) HB2.out.size ?_
                 intro v3 w3 ho3 hg3 hb3
                 have HO3 := Lib.hid ho3
                 have HB3 := Lib.hid (HB2.out.trans hb3)
                 clear ho3 hg3 hb3 c2))
            go_roundg (l.length - (k + 1))
            case measure => omega
            case rel => exact ⟨k + 1, true, (O ++ [s]) ++ [x], by omega, rfl, by go_num, Lib.hid (HI.out.step_at HA.out HTK.out HCC.out), HO3.out, HB3.out⟩
          | false =>
            go_wp2_with (first
              | (go_at_call 32
                 with_reducible refine HBF.out.mono ?_
                 rintro e w1 ⟨rfl, hg1⟩
                 have HG1 := Lib.hid hg1.below
                 have c1 := HC.out w1 HG1.out
                 have HO1 := Lib.hid (HOW.out.below HG1.out)
                 have HZ1 := Lib.hid (Nat.le_trans HZ.out HG1.out.size)
                 clear hg1 c0)
              | (at_builtin
                 refine wpList_append_one (.tmp 35) (.tmp 40) rfl 46 rfl slStr rfl HO1.out rfl (S := fun _ => False) (y := x) ⟨rfl, HXZ.out⟩ (fun _ h => h.elim) (by omega) (by unfold maxLen; omega) HZ1.out ?_
                 intro v3 w3 ho3 hg3 hb3
                 have HO3 := Lib.hid ho3
                 have HB3 := Lib.hid (Below.trans (HB.out.trans (HG1.out.mono HZ.out)) hb3)
                 clear ho3 hg3 hb3 c1))
            go_roundg (l.length - (k + 1))
            case measure => omega
            case rel => exact ⟨k + 1, false, O ++ [x], by omega, rfl, by go_num, Lib.hid (HI.out.step_no HTK.out HCC.out HXS.out), HO3.out, HB3.out⟩
    · obtain rfl : k = l.length := by omega
      have hkl : ¬ (l.length : Int) < (l.length : Int) := by omega
      clear hlt hk hb hown
      cases d with
      | true =>
        obtain ⟨q1, q2, -⟩ := HI.out.yes rfl
        rw [List.take_length] at q2
        have Q1 := Lib.hid q1
        have Q2 := Lib.hid q2
        clear q1 q2
        go_wp2
        go_ret
        exact ⟨⟨_, rfl, O, Q1.out, Q2.out, hOl, HOW.out.sl⟩, HB.out⟩
      | false =>
        obtain ⟨q1, q2⟩ := HI.out.no rfl
        rw [List.take_length] at q1 q2
        have Q1 := Lib.hid (show AscS (O ++ [s]) from by rw [q1]; exact asc_snoc HA.out q2)
        have Q2 := Lib.hid (show ∀ u, u ∈ O ++ [s] ↔ u = s ∨ u ∈ l from fun u => by rw [q1, List.mem_append, List.mem_singleton, or_comm])
        have Q3 := Lib.hid (show (O ++ [s]).length ≤ l.length + 1 from by rw [q1]; simp)
        clear q1 q2
        go_wp2_with (first
          | (at_builtin
             refine wpList_append_one (.tmp 44) (.tmp 46) rfl 46 rfl slStr rfl HOW.out rfl (S := fun _ => False) (y := s) ⟨rfl, HSZ.out⟩ (fun _ h => h.elim) (by omega) (by unfold maxLen; omega) HZ.out ?_
             intro v3 w3 ho3 hg3 hb3
             have HO3 := Lib.hid ho3
             have HB3 := Lib.hid (HB.out.trans hb3)
             clear ho3 hg3 hb3))
        go_ret
        exact ⟨⟨_, rfl, _, Q1.out, Q2.out, Q3.out, HO3.out.sl⟩, HB3.out⟩
end Go.Proofs.YtbjhemglecllmaaDoor
/-
  Layer 17 (passage): the reference's Vehicles.
-/
namespace Go.Tw.Ps
open Go.RowKit Go.Tw Go.Sort Go.Tw.Ord
theorem onlyTag_mem {l : List Pas} {p : ByteArray} (h : onlyTag l p ≠ es) : ∃ x ∈ l, x.tag = onlyTag l p := by
  unfold onlyTag at h ⊢
  split at h
  · exact absurd rfl h
  · rename_i t r e
    by_cases q : r.all (fun u => decide (u = t)) = true
    · have ht : t ∈ tagsOf l p := by rw [e]; simp
      unfold tagsOf at ht
      obtain ⟨x, hx, rfl⟩ := List.mem_map.1 ht
      exact ⟨x, (List.mem_filter.1 hx).1, by simp only [q, if_true]⟩
    · rw [if_neg q] at h
      exact absurd rfl h
theorem ownP_size {l : List Pas} {x : Pas} (hl : ∀ y ∈ l, PasOk y) (hx : PasOk x) : (ownP l x).size ≤ maxLen := by
  unfold ownP
  split
  · split
    · exact Nat.zero_le _
    · split
      · exact hx.plt
      · rename_i h
        obtain ⟨y, hy, e⟩ := onlyTag_mem h
        rw [← e]
        exact (hl y hy).tag
  · exact hx.tag
end Go.Tw.Ps
namespace Go.Proofs.YtbjhemglecllmaaDoor
open Go.RowKit Go.Tw Go.Tw.Ord Go.Tw.Ps Go.Sort
set_option maxRecDepth 100000 in
set_option maxHeartbeats 2000000 in
theorem vehiclesR_any (l : List Pas) (v : Value) (w : World) (h1 : SlIs (tPas eS) (· < w.heap.size) w v l) (hl : l.length ≤ 900) :
    Calls Tryd.prog 29 #[v] w fun e w' => (∃ v', e = .returned v' ∧ ∃ O, VehSpec l O ∧ SlIs tStr (· < w'.heap.size) w' v' O) ∧ Below w.heap.size w w' := by
  obtain ⟨ao, cp, g, o, rfl, q1, q2, ho⟩ := pas_row h1
  unfold maxLen at q2
  have HO := Lib.hid ho
  have HS := Lib.hid h1
  have HOKS := Lib.hid (show ∀ y ∈ l, PasOk y from fun y hy => by
    obtain ⟨k, hk, rfl⟩ := List.getElem_of_mem hy
    exact (ho w (SameOn.refl _ _) k hk).2.2.2.1)
  clear h1 ho
  go_enter Tryd.func29, Tryd.ntmps29
  go_wp2
  go_loopg [3, 4] l.length (fun gx v i wo => ∃ (k : Nat) (O : List ByteArray), k + gx = l.length ∧ i = .int .i64 k ∧ Hid (AscS O ∧ O.length ≤ k ∧ ∀ u, u ∈ O ↔ u ≠ es ∧ ∃ x ∈ l.take k, ownP l x = u) ∧ SlIs tStr (· < wo.heap.size) wo v O ∧ Below w.heap.size w wo)
  case atStart => exact ⟨0, [], by omega, rfl, Lib.hid ⟨List.Pairwise.nil, Nat.le_refl _, fun u => by simp⟩, SlIs.nil, Below.refl _ _⟩
  case round =>
    obtain ⟨wo, rfl⟩ : ∃ wo : World, wo = wr := ⟨_, rfl⟩
    obtain ⟨k, O, hk, rfl, HI, hown, hb⟩ := hrel
    by_cases hlt : k < l.length
    · obtain ⟨rfl, -, hbk, hok, ax, nx, cx, hsx, hc⟩ := HO.out wo (.of_below hb) k hlt
      have HTK1 := Lib.hid (show l.take (k + 1) = l.take k ++ [l[k]] from List.take_succ_eq_append_getElem hlt)
      generalize l[k] = x at HTK1 hc hok
      obtain ⟨A, hA⟩ : ∃ A, (pCells x (.slice ax nx cx)).toArray = A := ⟨_, rfl⟩
      have ld0 : Sem.run Tryd.prog (loadCellsFrom ⟨g, o + k * 8, none⟩ 0 8 #[]) wo = .ok A wo := by
        rw [← hA]
        exact load_pas _ fun jj hjj => hc jj hjj
      obtain ⟨c, hcc⟩ : ∃ c, ownP l x = c := ⟨_, rfl⟩
      have HBC := Lib.hid (belongsR_any l x _ (.slice ax nx cx) wo (HS.out.step hb) (by omega))
      have HSC := Lib.hid (ownP_size HOKS.out hok)
      rw [hA, hcc] at HBC
      rw [hcc] at HSC
      have HCC := Lib.hid hcc
      have HB := Lib.hid hb
      have HOW := Lib.hid hown
      have HOL := Lib.hid (show O.length ≤ 1000 by have := HI.out.2.1; omega)
      have k0 : (0 : Int) ≤ (k : Int) := by omega
      have k1 : (k : Int) < (l.length : Int) := by omega
      obtain ⟨oo, co, _, _, rfl, -⟩ := id hown
      clear hA hc hok hb hown hbk hsx hcc
      by_cases d1 : c = es
      · have e1 : c.toList.isEmpty = true := by rw [emp_iff]; simpa using d1
        have D1 := Lib.hid d1
        clear d1
        go_wp2_with (first
          | (refine wpList_loadA _ rfl 24 rfl Tryd.isAgg24 Tryd.sizeOf24 rfl (by with_reducible assumption) ?_)
          | (go_at_call 53
             with_reducible refine HBC.out.mono ?_
             rintro e w1 ⟨rfl, hg1⟩
             have HG1 := Lib.hid hg1.below
             clear hg1 ld0))
        go_roundg (l.length - (k + 1))
        case measure => omega
        case rel => exact ⟨k + 1, O, by omega, by go_num, Lib.hid ⟨HI.out.1, Nat.le_succ_of_le HI.out.2.1, fun u => by
          rw [HI.out.2.2, HTK1.out]
          refine and_congr_right fun hu => ⟨fun ⟨y, hy, h⟩ => ⟨y, List.mem_append_left _ hy, h⟩, fun ⟨y, hy, h⟩ => ?_⟩
          rcases List.mem_append.1 hy with hy | hy
          · exact ⟨y, hy, h⟩
          · simp at hy; subst hy
            exact absurd (h.symm.trans (HCC.out.trans D1.out)) hu⟩, HOW.out.step HG1.out, bl_trans HB.out HG1.out⟩
      · have e1 : c.toList.isEmpty = false := by rw [emp_iff]; simpa using d1
        have D1 := Lib.hid d1
        clear d1
        have HINS := Lib.hid (show ∀ w', Below wo.heap.size wo w' → Calls Tryd.prog 55 #[.slice oo O.length co, .string c] w' fun e w'' => (∃ v', e = .returned v' ∧ ∃ O', AscS O' ∧ (∀ u, u ∈ O' ↔ u = c ∨ u ∈ O) ∧ O'.length ≤ O.length + 1 ∧ SlIs tStr (· < w''.heap.size) w'' v' O') ∧ Below w'.heap.size w' w'' from fun w' hw => insertR_any O c _ w' (HOW.out.step hw) HI.out.1 HOL.out HSC.out)
        go_wp2_with (first
          | (refine wpList_loadA _ rfl 24 rfl Tryd.isAgg24 Tryd.sizeOf24 rfl (by with_reducible assumption) ?_)
          | (go_at_call 53
             with_reducible refine HBC.out.mono ?_
             rintro e w1 ⟨rfl, hg1⟩
             have HG1 := Lib.hid hg1.below
             clear hg1 ld0)
          | (go_at_call 55
             with_reducible refine (HINS.out w1 HG1.out).mono ?_
             rintro e w2 ⟨⟨v2, rfl, O2, p1, p2, p3, p4⟩, hb2⟩
             have P1 := Lib.hid p1
             have P2 := Lib.hid p2
             have P3 := Lib.hid p3
             have P4 := Lib.hid p4
             have HB2 := Lib.hid (bl_trans (bl_trans HB.out HG1.out) hb2)
             clear p1 p2 p3 p4 hb2))
        go_roundg (l.length - (k + 1))
        case measure => omega
        case rel => exact ⟨k + 1, O2, by omega, by go_num, Lib.hid ⟨P1.out, Nat.le_trans P3.out (Nat.succ_le_succ HI.out.2.1), fun u => by
          rw [P2.out, HI.out.2.2, HTK1.out]
          constructor
          · rintro (rfl | ⟨hu, y, hy, h⟩)
            · exact ⟨D1.out, x, by simp, HCC.out⟩
            · exact ⟨hu, y, List.mem_append_left _ hy, h⟩
          · rintro ⟨hu, y, hy, h⟩
            rcases List.mem_append.1 hy with hy | hy
            · exact Or.inr ⟨hu, y, hy, h⟩
            · simp at hy; subst hy
              exact Or.inl (h.symm.trans HCC.out)⟩, P4.out, HB2.out⟩
    · obtain rfl : k = l.length := by omega
      have hkl : ¬ (l.length : Int) < (l.length : Int) := by omega
      have HB := Lib.hid hb
      have HOW := Lib.hid hown
      rw [List.take_length] at HI
      clear hlt hk hb hown
      go_wp2
      go_ret
      exact ⟨⟨_, rfl, O, ⟨HI.out.1, HI.out.2.2⟩, HOW.out⟩, HB.out⟩
end Go.Proofs.YtbjhemglecllmaaDoor
/-
  Numbers in a block: its first cells; stores into it. No program in sight.
-/
namespace Go.Tw
open Go.RowKit

section
variable {α : Type} {enc : α → Value}
/-- block g is made of cells, none of them frozen, and begins with the numbers l -/
def CellsE (enc : α → Value) (w : World) (g : Nat) (l : List α) : Prop := ∃ A t, w.heap[g]? = some (.cells A t (0, 0)) ∧ ∀ k (h : k < l.length), A[k]? = some (enc l[k])
theorem CellsE.lt {w : World} {g : Nat} {l : List α} (h : CellsE enc w g l) : g < w.heap.size := by
  obtain ⟨A, t, h, -⟩ := h
  exact lt_of_heap h
theorem CellsE.cell {w : World} {g : Nat} {l : List α} (h : CellsE enc w g l) {k : Nat} (hk : k < l.length) : w.cell? ⟨g, k, none⟩ = some (enc l[k]) := by
  obtain ⟨A, t, h1, h2⟩ := h
  simp only [World.cell?, h1]
  exact h2 k hk
theorem CellsE.free {w : World} {g : Nat} {l : List α} (h : CellsE enc w g l) (k : Nat) : w.frozen? ⟨g, k, none⟩ = false := by
  obtain ⟨A, t, h1, h2⟩ := h
  simp only [World.frozen?, h1]
  simp
theorem CellsE.keep {w w' : World} {g : Nat} {l : List α} (h : CellsE enc w g l) (hw : w'.heap[g]? = w.heap[g]?) : CellsE enc w' g l := by
  obtain ⟨A, t, h1, h2⟩ := h
  exact ⟨A, t, hw.trans h1, h2⟩
theorem CellsE.below {w w' : World} {g : Nat} {l : List α} (h : CellsE enc w g l) (hb : Below w.heap.size w w') : CellsE enc w' g l := h.keep (hb.block _ h.lt)
theorem CellsE.alloc {w : World} {g : Nat} {l : List α} (h : CellsE enc w g l) (o : Obj) : CellsE enc (w.alloc o) g l := h.below (bl_alloc (Below.refl _ _) o)
theorem CellsE.drewN {w : World} {g : Nat} {l : List α} (h : CellsE enc w g l) (n : Nat) : CellsE enc (w.drewN n) g l := h.keep rfl
theorem CellsE.drew {w : World} {g : Nat} {l : List α} (h : CellsE enc w g l) : CellsE enc w.drew g l := h.keep rfl
theorem CellsE.other {w : World} {g : Nat} {l : List α} (h : CellsE enc w g l) {a : Addr} (ha : a.block ≠ g) (v : Value) : CellsE enc (w.setCell a v) g l := h.keep (Below.heap_setCell _ _ _ _ fun e => ha e.symm)
theorem CellsE.set {w : World} {g : Nat} {l : List α} (h : CellsE enc w g l) (i : Nat) (x : α) : CellsE enc (w.setCell ⟨g, i, none⟩ (enc x)) g (l.set i x) := by
  obtain ⟨A, t, h1, h2⟩ := h
  refine ⟨A.setIfInBounds i (enc x), t, heap_setCell_same _ _ i _ _ (enc x) h1, fun k hk => ?_⟩
  have hk' : k < l.length := by simpa using hk
  rw [Array.getElem?_setIfInBounds, List.getElem_set]
  have := h2 k hk'
  by_cases e : i = k
  · subst e
    have hA : i < A.size := (Array.getElem?_eq_some_iff.1 this).1
    rw [if_pos rfl, if_pos hA, if_pos rfl]
  · rw [if_neg e, if_neg e]
    exact this
theorem CellsE.setR {w : World} {g : Nat} {l l' : List α} {i : Nat} {x : α} (h : CellsE enc w g l) (e : l.set i x = l') : CellsE enc (w.setCell ⟨g, i, none⟩ (enc x)) g l' := e ▸ h.set i x
end
abbrev Cells := CellsE (Value.int .i64)
abbrev Flags := CellsE Value.bool
theorem Cells.made (w : World) (n : Nat) (t : TypeId) : Cells (w.alloc (.cells (madeCells #[.int .i64 0] n) t)) w.heap.size (List.replicate n 0) := by
  refine ⟨_, t, heap_alloc_new _ _, fun k hk => ?_⟩
  have hk' : k < n := by simpa using hk
  rw [ints_made]
  simp [ints, hk']
theorem Cells.sl {w : World} {g cap : Nat} {l : List Int} (h : Cells w g l) (hl : ∀ x ∈ l, i64ok x) (hc : l.length ≤ cap) (hm : cap ≤ maxLen) : SlIs tInt (fun k => k = g) w (.slice (some ⟨g, 0, none⟩) l.length cap) l := by
  refine ⟨some ⟨g, 0, none⟩, cap, g, 0, rfl, hc, hm, fun e => (by cases e), fun k hk => ⟨rfl, rfl, h.lt, [.int .i64 l[k]], fun j hj => ?_, rfl, hl _ (List.getElem_mem hk)⟩⟩
  obtain rfl : j = 0 := by
    have : j < 1 := hj
    omega
  show w.cell? ⟨g, 0 + k * 1 + 0, none⟩ = _
  rw [show 0 + k * 1 + 0 = k by omega, h.cell hk]
  rfl
theorem Flags.made (w : World) (n : Nat) (t : TypeId) : Flags (w.alloc (.cells (madeCells #[.bool false] n) t)) w.heap.size (List.replicate n false) := by
  refine ⟨_, t, heap_alloc_new _ _, fun k hk => ?_⟩
  have hk' : k < n := by simpa using hk
  simp [madeCells, hk', Nat.mod_one]
/-- a slice of the call's own: nothing, or a block that begins with its numbers -/
theorem own_ints {e : TypeId} {B : Nat} {w : World} {v : Value} {l : List Int} (h : OwnSl tInt e B w v l) :
    (v = .slice none 0 0 ∧ l = []) ∨ ∃ g cap, v = .slice (some ⟨g, 0, none⟩) l.length cap ∧ l.length ≤ cap ∧ cap ≤ maxLen ∧ B ≤ g ∧ Cells w g l ∧ ∀ x ∈ l, i64ok x := by
  have hsl := h.sl
  obtain ⟨css, h1, h2⟩ := h
  rcases h1.2 with ⟨rfl, h'⟩ | ⟨g, cap, cur, rfl, hB, hg, h3, h4, _, h6⟩
  · exact .inl ⟨rfl, List.eq_nil_of_length_eq_zero h'⟩
  · obtain ⟨ao, cap', b, off, hv, q1, q2, ho⟩ := ints_open hsl
    simp only [Value.slice.injEq] at hv
    obtain ⟨rfl, -, rfl⟩ := hv
    refine .inr ⟨g, cap, rfl, h3, h4, hB, ⟨cur, _, hg, fun j hj => ?_⟩, fun x hx => ?_⟩
    · obtain ⟨e, -, e2, -⟩ := ho w (Below.refl _ _) j hj
      simp only [Option.some.injEq, Addr.mk.injEq, and_true] at e
      obtain ⟨rfl, rfl⟩ := e
      simp only [World.cell?, hg, Nat.zero_add] at e2
      exact e2
    · obtain ⟨j, hj, rfl⟩ := List.getElem_of_mem hx
      exact (ho w (Below.refl _ _) j hj).2.2.2
end Go.Tw
