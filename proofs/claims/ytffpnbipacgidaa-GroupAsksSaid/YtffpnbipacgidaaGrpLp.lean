/-
  Layer 14 (group): Lanes of the program.
-/
import Derived.Test.YtffpnbipacgidaaGrpLn
import Derived.Test.YtffpnbipacgidaaCells
namespace Go.Proofs.Ytffpnbipacgidaa
open Go.RowKit Go.Tw Go.Tw.Ord Go.Tw.Grp Go.Sort
theorem holdsI {w : World} {g : Nat} {l : List Int} (h : Cells w g l) : Holds (Value.int .i64) w g 0 l.toArray := fun j hj => by
  have hj' : j < l.length := by simpa using hj
  refine ⟨?_, h.free _⟩
  rw [Nat.zero_add, h.cell hj', getElem!_pos l.toArray j hj]
  simp
theorem slI_of {w : World} {g n cap : Nat} {l : List Int} (h : Holds (Value.int .i64) w g 0 l.toArray) (hg : g < w.heap.size) (hn : l.length = n) (hc : n ≤ cap) (hm : cap ≤ maxLen) (hok : ∀ x ∈ l, i64ok x) : SlIs tInt (· < w.heap.size) w (.slice (some ⟨g, 0, none⟩) n cap) l := by
  subst hn
  refine ⟨some ⟨g, 0, none⟩, cap, g, 0, rfl, hc, hm, fun e => (by cases e), fun k hk => ⟨rfl, hg, hg, [.int .i64 l[k]], fun j hj => ?_, rfl, hok _ (List.getElem_mem hk)⟩⟩
  obtain rfl : j = 0 := by
    have : j < 1 := hj
    omega
  have := (h k (by simpa using hk)).1
  rw [getElem!_pos l.toArray k (by simpa using hk)] at this
  show w.cell? ⟨g, 0 + k * 1 + 0, none⟩ = _
  rw [show 0 + k * 1 + 0 = 0 + k by omega, this]
  simp
/-- worlds that differ in block g alone, and in what was made -/
theorem below_put_row {B g : Nat} {w : World} {d : List Int} {os : Array Obj} {n : Nat} (hB : B ≤ g) (hg : g < w.heap.size) : Below B w (grow (putRow (Value.int .i64) (Sort.ahead w n) g 0 d.toArray) os) := by
  refine Below.of_grown (row := some g) ⟨rfl, rfl, rfl, ?_, fun k hk hne => ?_⟩ (by omega) (fun k hk => by cases hk; exact hB)
  · show w.heap.size ≤ (_ ++ os).size
    simp [putRow, mapBlock, Sort.ahead]
  · exact sortWorld_at (Value.int .i64) w g 0 n d.toArray os hk (fun e => hne (by rw [e]))
theorem holds_put {g n : Nat} {w : World} {l d : List Int} {os : Array Obj} (h : Holds (Value.int .i64) w g 0 l.toArray) (hg : g < w.heap.size) (hl : d.length = l.length) : Holds (Value.int .i64) (grow (putRow (Value.int .i64) (Sort.ahead w n) g 0 d.toArray) os) g 0 d.toArray := by
  have h1 : Holds (Value.int .i64) (putRow (Value.int .i64) (Sort.ahead w n) g 0 d.toArray) g 0 d.toArray := holds_putRow _ _ _ _ l.toArray d.toArray (holds_ahead _ _ _ _ _ _ h) (by simpa using hl)
  exact holds_grow _ _ _ _ _ _ (by simp [putRow, mapBlock, Sort.ahead]; exact hg) h1
set_option maxRecDepth 100000 in
set_option maxHeartbeats 2000000 in
theorem lanes_any (l : List Seen) (v : Value) (w : World) (h : SlIs tSeen (· < w.heap.size) w v l) (hl : l.length ≤ 1000) :
    Calls Try.prog 22 #[v] w fun e w' => (∃ v', e = .returned v' ∧ ∃ O, SlIs tInt (· < w'.heap.size) w' v' O ∧ LnSpec l O) ∧ Below w.heap.size w w' := by
  obtain ⟨ao, cp, b, o, rfl, h1, h2, ho⟩ := seen_row h
  unfold maxLen at h2
  have HO := Lib.hid ho
  clear h ho
  go_enter Try.func22, Try.ntmps22
  go_wp2
  go_loopg [3, 8] l.length (fun gx sv i wr => ∃ k : Nat, k + gx = l.length ∧ i = .int .i64 k ∧ OwnSl tInt 3 w.heap.size wr sv ((l.take k).map Seen.ln) ∧ Below w.heap.size w wr)
  case atStart => exact ⟨0, by omega, rfl, OwnSl.nil _ _ _ _, Below.refl _ _⟩
  case round =>
    obtain ⟨k, hk, rfl, hown, hb⟩ := hrel
    by_cases hlt : k < l.length
    · obtain ⟨rfl, -, hbk, hok, hc⟩ := HO.out wr (.of_below hb) k hlt
      have ld := load_seen (x := l[k]) Try.prog hc
      have HOW := Lib.hid hown
      have HB := Lib.hid hb
      have k0 : (0 : Int) ≤ (k : Int) := by omega
      have k1 : (k : Int) < (l.length : Int) := by omega
      obtain ⟨A, hA⟩ : ∃ A, (sCells l[k]).toArray = A := ⟨_, rfl⟩
      rw [hA] at ld
      have hs : A.size = 11 := by rw [← hA]; rfl
      have h1c := oneA hA
      have hbx : SBox (wr.alloc (.cells A 31)) wr.heap.size l[k] := by rw [← hA]; exact heap_alloc_new _ _
      have c9 := hbx.cell 9 (v := .int .i64 l[k].ln) rfl
      have hxo := hok.ln
      have HT := Lib.hid (show (l.take (k + 1)).map Seen.ln = (l.take k).map Seen.ln ++ [l[k].ln] by rw [List.take_succ_eq_append_getElem hlt, List.map_append]; rfl)
      have hfl : ((l.take k).map Seen.ln).length ≤ 1000 := by simp; omega
      have HF := Lib.hid hfl
      obtain ⟨m, hm⟩ : ∃ m, (l.take k).map Seen.ln = m := ⟨_, rfl⟩
      rw [hm] at HOW HT HF hown
      obtain ⟨z, hz⟩ : ∃ z, l[k].ln = z := ⟨_, rfl⟩
      rw [hz] at c9 HT hxo
      have HXO := Lib.hid hxo
      obtain ⟨av, cv, rfl, hv1, hv2⟩ := hown.form
      clear hA hc hown hb hfl hok hm hz hbx hxo hv1 hv2
      have hsB := HB.out.size
      go_wp2_with (first
        | (refine wpList_loadA _ rfl 31 rfl Try.isAgg31 Try.sizeOf31 rfl (by with_reducible assumption) ?_)
        | (refine wpList_newA 5 rfl (.tmp 11) rfl rfl 31 rfl rfl rfl Try.sizeOf31 Try.zeroValue31 rfl (by with_reducible assumption) (by with_reducible assumption) (by simp [Act.put]) rfl ?_)
        | (at_builtin
           refine wpList_append_one (.tmp 12) (.tmp 15) rfl 43 rfl slIntG (y := z) (S := fun _ => False) rfl (HOW.out.alloc _) (by rw [World.size_alloc]; rfl) ⟨rfl, HXO.out⟩ (fun _ h => h.elim) (small_bytes (k := 1001) (by have := HF.out; omega) (by decide)) (by have := HF.out; unfold maxLen; omega) (by simp; omega) ?_
           intro v' w1 ho1 hg1 hb1))
      go_roundg (l.length - (k + 1))
      case measure => omega
      case rel => exact ⟨k + 1, by omega, by go_num, by rw [HT.out]; exact ho1, (bl_alloc HB.out _).trans hb1⟩
    · have hkl : ¬ (k : Int) < (l.length : Int) := by omega
      obtain rfl : k = l.length := by omega
      rw [List.take_length] at hown
      have HB := Lib.hid hb
      have HSP := Lib.hid (LnSpec.of_sort (l := l))
      have hzl : (l.map Seen.ln).length ≤ 1000 := by simpa using hl
      have hzo : l.map Seen.ln = [] → l = [] := by simp
      generalize l.map Seen.ln = zs at hown HSP hzl hzo
      rcases own_ints hown with ⟨rfl, hz⟩ | ⟨g, cap, rfl, p1, p2, p3, p4, p5⟩
      · have HZ := Lib.hid (hzo hz)
        clear hown hb hlt hk hz hzo
        go_wp2_with (first
          | (go_at_call 39
             refine (Try.slices_Sort_int_none none 0 wr).mono ?_
             rintro e w1 ⟨rfl, rfl⟩)
          | (go_at_call 40
             refine (Try.slices_Compact_int_empty none 0 _).mono ?_
             rintro e w1 ⟨rfl, rfl⟩))
        go_ret
        exact ⟨⟨_, rfl, [], SlIs.nil, by rw [HZ.out]; exact LnSpec.nil⟩, HB.out⟩
      · have hg := p4.lt
        have hH := holdsI p4
        unfold maxLen at p2
        have hsl := List.length_mergeSort (le := fun x y : Int => decide (x ≤ y)) zs
        have hso : ∀ x ∈ zs.mergeSort fun x y => decide (x ≤ y), i64ok x := fun x hx => p5 x ((List.mergeSort_perm _ _).mem_iff.1 hx)
        have HS1 := Lib.hid (Try.slices_Sort_int g 0 cap zs wr hH hg (by omega))
        generalize zs.mergeSort (fun x y => decide (x ≤ y)) = ss at HSP hsl hso HS1
        have hcl := Lib.compact_length_le ss
        have hco : ∀ x ∈ Lib.compact ss, i64ok x := fun x hx => by
          obtain ⟨s, hs, e⟩ := (HSP.out.2 x).1 hx
          obtain ⟨kk, hkk, rfl⟩ := List.getElem_of_mem hs
          obtain ⟨-, -, -, hok, -⟩ := HO.out wr (.of_below HB.out) kk hkk
          rw [← e]
          exact hok.ln
        have HCO := Lib.hid hco
        have HPH := Lib.hid (show ∀ (n : Nat) (os : Array Obj), Holds (Value.int .i64) (grow (putRow (Value.int .i64) (Sort.ahead wr n) g 0 ss.toArray) os) g 0 ss.toArray ∧ Below w.heap.size w (grow (putRow (Value.int .i64) (Sort.ahead wr n) g 0 ss.toArray) os) ∧ wr.heap.size ≤ (grow (putRow (Value.int .i64) (Sort.ahead wr n) g 0 ss.toArray) os).heap.size from fun n os =>
          ⟨holds_put hH hg hsl, HB.out.trans (below_put_row p3 hg), (below_put_row (Nat.le_refl _) hg).size⟩)
        obtain ⟨nz, hnz⟩ : ∃ n, zs.length = n := ⟨_, rfl⟩
        rw [hnz] at HS1 hsl p1 hzl ⊢
        have HSL := Lib.hid hsl
        have HG := Lib.hid hg
        have HP1 := Lib.hid p1
        have HP2 := Lib.hid p2
        have HP3 := Lib.hid p3
        have HCL := Lib.hid hcl
        have hzl2 : nz ≤ 1000 := hzl
        clear hown hb hlt hk hH p4 p5 hso hco hzo hnz hsl hg p1 p2 p3 hcl hzl
        go_wp2_with (first
          | (go_at_call 39
             refine HS1.out.mono ?_
             rintro e w1 ⟨rfl, n1, os1, hw1⟩
             obtain ⟨hh1, hb1, hz1⟩ := HPH.out n1 os1
             rw [← hw1] at hh1 hb1 hz1
             clear hw1
             have HH1 := Lib.hid hh1
             have HB1 := Lib.hid hb1
             have hg1 : g < w1.heap.size := Nat.lt_of_lt_of_le HG.out hz1
             clear hh1 hb1 hz1)
          | (go_at_call 40
             have hcp := Try.slices_Compact_int g 0 cap ss w1 HH1.out (by have := HSL.out; omega) (by have := HSL.out; have := HP1.out; omega)
             rw [HSL.out] at hcp
             refine hcp.mono ?_
             clear hcp
             rintro e w2 ⟨rfl, n2, hw2⟩
             have h2 := holds_put (n := n2) (os := #[]) (d := Lib.compact ss ++ List.replicate (nz - (Lib.compact ss).length) 0) HH1.out hg1 (by have := HCL.out; have := HSL.out; simp; omega)
             have hb2 := below_put_row (B := w.heap.size) (n := n2) (os := #[]) (d := Lib.compact ss ++ List.replicate (nz - (Lib.compact ss).length) 0) HP3.out hg1
             rw [grow_empty, ← hw2] at h2 hb2
             have HH2 := Lib.hid h2
             have HB2 := Lib.hid (HB1.out.trans hb2)
             have hg2 : g < w2.heap.size := Nat.lt_of_lt_of_le hg1 hb2.size
             clear h2 hb2 hw2))
        go_ret
        refine ⟨⟨_, rfl, Lib.compact ss, slI_of (fun j hj => ?_) hg2 rfl (by have := HCL.out; have := HSL.out; have := HP1.out; omega) (by have := HP2.out; unfold maxLen; omega) HCO.out, HSP.out⟩, HB2.out⟩
        have hj' : j < (Lib.compact ss).length := by simpa using hj
        have := HH2.out j (by simp; omega)
        rw [getElem!_pos _ j (by simp; omega)] at this
        rw [getElem!_pos _ j hj]
        simpa [hj'] using this
end Go.Proofs.Ytffpnbipacgidaa
