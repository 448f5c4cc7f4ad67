/-
  Layer 17 (passage) in plain Lean: what the program's Vehicles collects; strings sorted as rows of bytes.
-/
import Derived.Test.YtbjhemglecllmaaDoorMgA
import Derived.Test.YtbjhemglecllmaaDoorMgE
import Derived.Sort.EncStr
import Derived.Test.YtbjhemglecllmaaDoorShelf
import Derived.Lib.ItoaNum
import Derived.Test.YtbjhemglecllmaaDoorProg
import Derived.Test.YtbjhemglecllmaaDoorMgD
import Derived.Deep.RegionWith
import Derived.Laws.RangeAny
import Derived.Laws.RangeString
import Derived.LoopTactic
import Derived.Laws.Strings2
namespace Go.Tw.Ps
open Go.RowKit Go.Tw Go.Sort Go.Tw.Ord
open Go.Proofs (encStr)
abbrev leK : List UInt8 → List UInt8 → Bool := fun x y => decide (x ≤ y)
def kb (s : ByteArray) : List UInt8 := s.data.toList
def ofB (x : List UInt8) : ByteArray := ⟨x.toArray⟩
theorem ofB_kb (s : ByteArray) : ofB (kb s) = s := by unfold ofB kb; simp
theorem kb_ofB (x : List UInt8) : kb (ofB x) = x := by unfold ofB kb; simp
theorem kb_inj {a b : ByteArray} (h : kb a = kb b) : a = b := by rw [← ofB_kb a, h, ofB_kb]
theorem lt_kb : ∀ x y : List UInt8, x < y ↔ ltL (x.map fun c => (c.toNat : Int)) (y.map fun c => (c.toNat : Int)) = true
  | [], [] => by simp [ltL]
  | [], _ :: _ => by simp [ltL]
  | _ :: _, [] => by simp [ltL]
  | a :: x, b :: y => by
    rw [List.cons_lt_cons_iff, lt_kb x y, List.map_cons, List.map_cons, ltL]
    by_cases h : a = b
    · subst h
      simp
    · have h' : ¬ (a.toNat : Int) = (b.toNat : Int) := fun q => h (UInt8.toNat_inj.mp (by omega))
      rw [if_neg h']
      simp [h, UInt8.lt_iff_toNat_lt]
theorem cmpS_ltK {a b : ByteArray} (h : kb a < kb b) : cmpS a b < 0 := by
  have h1 : ltL (codes a) (codes b) = true := (lt_kb (kb a) (kb b)).1 h
  unfold cmpS
  rw [if_pos h1]
  omega
/-- strings without repetition, sorted as rows of bytes -/
theorem sorted_kb {O : List ByteArray} (hn : O.Nodup) : (((O.map kb).mergeSort leK).map ofB).Pairwise (fun x y => cmpS x y < 0) ∧ ∀ v, v ∈ ((O.map kb).mergeSort leK).map ofB ↔ v ∈ O := by
  have hp := List.mergeSort_perm (O.map kb) leK
  have hs : ((O.map kb).mergeSort leK).Pairwise fun a b => leK a b = true := List.pairwise_mergeSort (le := leK) (fun a b c h1 h2 => by simp only [leK, decide_eq_true_eq] at *; exact List.le_trans h1 h2) (fun a b => by simp only [leK, Bool.or_eq_true, decide_eq_true_eq]; exact List.le_total a b) _
  have hd : ((O.map kb).mergeSort leK).Nodup := hp.nodup_iff.2 (List.pairwise_map.2 (hn.imp fun h e => h (kb_inj e)))
  refine ⟨List.pairwise_map.2 ((hs.and hd).imp fun {a b} h => ?_), fun v => ?_⟩
  · apply cmpS_ltK
    rw [kb_ofB, kb_ofB]
    have h1 : a ≤ b := by simpa [leK] using h.1
    exact Classical.byContradiction fun hn => h.2 (List.le_antisymm h1 (List.not_lt.1 hn))
  · constructor
    · intro hv
      obtain ⟨x, hx, rfl⟩ := List.mem_map.1 hv
      obtain ⟨s, hs', rfl⟩ := List.mem_map.1 (hp.mem_iff.1 hx)
      rwa [ofB_kb]
    · intro hv
      exact List.mem_map.2 ⟨kb v, hp.mem_iff.2 (List.mem_map.2 ⟨v, hv, rfl⟩), ofB_kb v⟩
/-- after k passages -/
structure VehI (l : List Pas) (k : Nat) (O : List ByteArray) : Prop where
  len : O.length ≤ k
  nd : O.Nodup
  mem : ∀ u, u ∈ O ↔ u ≠ es ∧ ∃ x ∈ l.take k, ownP l x = u
theorem VehI.zero (l : List Pas) : VehI l 0 [] := ⟨Nat.le_refl _, List.nodup_nil, fun u => by simp⟩
theorem VehI.same {l : List Pas} {O : List ByteArray} {k : Nat} {x : Pas} (h : VehI l k O) (e : l.take (k + 1) = l.take k ++ [x]) (hx : ownP l x = es ∨ ownP l x ∈ O) : VehI l (k + 1) O := by
  refine ⟨Nat.le_succ_of_le h.len, h.nd, fun u => ?_⟩
  rw [h.mem, e]
  refine and_congr_right fun hu => ⟨fun ⟨y, hy, h⟩ => ⟨y, List.mem_append_left _ hy, h⟩, fun ⟨y, hy, h'⟩ => ?_⟩
  rcases List.mem_append.1 hy with hy | hy
  · exact ⟨y, hy, h'⟩
  · simp at hy
    subst hy
    rcases hx with hx | hx
    · exact absurd (h'.symm.trans hx) hu
    · rw [h'] at hx
      exact ((h.mem u).1 hx).2
theorem VehI.next {l : List Pas} {O : List ByteArray} {k : Nat} {x : Pas} (h : VehI l k O) (e : l.take (k + 1) = l.take k ++ [x]) (h1 : ownP l x ≠ es) (h2 : ownP l x ∉ O) : VehI l (k + 1) (O ++ [ownP l x]) := by
  refine ⟨by rw [List.length_append]; have := h.len; simp; omega, ?_, fun u => ?_⟩
  · rw [List.nodup_append]
    exact ⟨h.nd, by simp, fun a ha b hb => by simp at hb; subst hb; exact fun q => h2 (q ▸ ha)⟩
  · rw [List.mem_append, List.mem_singleton, h.mem, e]
    constructor
    · rintro (⟨hu, y, hy, h⟩ | rfl)
      · exact ⟨hu, y, List.mem_append_left _ hy, h⟩
      · exact ⟨h1, x, by simp, rfl⟩
    · rintro ⟨hu, y, hy, h⟩
      rcases List.mem_append.1 hy with hy | hy
      · exact Or.inl ⟨hu, y, hy, h⟩
      · simp at hy; subst hy
        exact Or.inr h.symm
theorem VehI.done {l : List Pas} {O : List ByteArray} (h : VehI l l.length O) : VehSpec l (((O.map kb).mergeSort leK).map ofB) := by
  obtain ⟨h1, h2⟩ := sorted_kb h.nd
  refine ⟨h1, fun v => ?_⟩
  rw [h2, h.mem, List.take_length]
def hasS (O : List ByteArray) (p : ByteArray) : Bool := O.any fun u => decide (p = u)
theorem hasS_iff {O : List ByteArray} {p : ByteArray} : hasS O p = true ↔ p ∈ O := by
  unfold hasS
  rw [List.any_eq_true]
  constructor
  · rintro ⟨u, hu, h⟩
    rw [decide_eq_true_eq] at h
    exact h ▸ hu
  · exact fun h => ⟨p, h, by simp⟩
theorem hasS_no {O : List ByteArray} {p : ByteArray} : hasS O p = false ↔ p ∉ O := by rw [← Bool.not_eq_true, hasS_iff]
/-- what the program's map of seen vehicles holds -/
def seenM (O : List ByteArray) (p : ByteArray) : Option Value := if hasS O p = true then some (.bool true) else none
theorem seenM_get (O : List ByteArray) (p : ByteArray) : (seenM O p).getD (.bool false) = .bool (hasS O p) := by
  unfold seenM
  cases h : hasS O p
  · rfl
  · rfl
theorem seenM_put (O : List ByteArray) (c p : ByteArray) : (if p = c then some (Value.bool true) else seenM O p) = seenM (O ++ [c]) p := by
  unfold seenM hasS
  rw [List.any_append]
  by_cases h : p = c
  · simp [h]
  · rw [if_neg h]
    simp only [List.any_cons, List.any_nil, decide_eq_false h, Bool.or_false]
theorem own_strs {e : TypeId} {B : Nat} {w : World} {v : Value} {l : List ByteArray} (h : OwnSl tStr e B w v l) :
    (v = .slice none 0 0 ∧ l = []) ∨ ∃ g cap, v = .slice (some ⟨g, 0, none⟩) l.length cap ∧ l.length ≤ cap ∧ cap ≤ maxLen ∧ B ≤ g ∧ CellsE Value.string w g l ∧ ∀ x ∈ l, x.size ≤ maxLen := by
  have hsl := h.sl
  obtain ⟨css, h1, h2⟩ := h
  rcases h1.2 with ⟨rfl, h'⟩ | ⟨g, cap, cur, rfl, hB, hg, h3, h4, _, h6⟩
  · exact .inl ⟨rfl, List.eq_nil_of_length_eq_zero h'⟩
  · obtain ⟨ao, cap', b, off, hv, q1, q2, ho⟩ := strs_open hsl
    simp only [Value.slice.injEq] at hv
    obtain ⟨rfl, -, rfl⟩ := hv
    refine .inr ⟨g, cap, rfl, h3, h4, hB, ⟨cur, _, hg, fun j hj => ?_⟩, fun x hx => ?_⟩
    · obtain ⟨e, -, -, e2, -⟩ := ho w (SameOn.refl _ _) j hj
      simp only [Option.some.injEq, Addr.mk.injEq, and_true] at e
      obtain ⟨rfl, rfl⟩ := e
      simp only [World.cell?, hg, Nat.zero_add] at e2
      exact e2
    · obtain ⟨j, hj, rfl⟩ := List.getElem_of_mem hx
      exact (ho w (SameOn.refl _ _) j hj).2.2.2.2
theorem enc_kb (s : ByteArray) : encStr (kb s) = .string s := by
  unfold encStr kb
  simp
theorem holdsS {w : World} {g : Nat} {l : List ByteArray} (h : CellsE Value.string w g l) : Holds encStr w g 0 (l.map kb).toArray := fun j hj => by
  have hj' : j < l.length := by simpa using hj
  refine ⟨?_, h.free _⟩
  rw [Nat.zero_add, h.cell hj', getElem!_pos (l.map kb).toArray j hj]
  simp [enc_kb]
theorem slS_of {w : World} {g n cap : Nat} {l : List (List UInt8)} (h : Holds encStr w g 0 l.toArray) (hg : g < w.heap.size) (hn : l.length = n) (hc : n ≤ cap) (hm : cap ≤ maxLen) (hok : ∀ x ∈ l, (ofB x).size ≤ maxLen) : SlIs tStr (· < w.heap.size) w (.slice (some ⟨g, 0, none⟩) n cap) (l.map ofB) := by
  subst hn
  refine ⟨some ⟨g, 0, none⟩, cap, g, 0, by rw [List.length_map], by rw [List.length_map]; exact hc, hm, fun e => (by cases e), fun k hk => ?_⟩
  have hk' : k < l.length := by simpa using hk
  refine ⟨rfl, hg, hg, [.string (ofB l[k])], fun j hj => ?_, by rw [List.getElem_map]; exact ⟨rfl, hok _ (List.getElem_mem hk')⟩⟩
  obtain rfl : j = 0 := by
    have : j < 1 := hj
    omega
  have := (h k (by simpa using hk')).1
  rw [getElem!_pos l.toArray k (by simpa using hk')] at this
  show w.cell? ⟨g, 0 + k * 1 + 0, none⟩ = _
  rw [show 0 + k * 1 + 0 = 0 + k by omega, this]
  simp [ofB]
end Go.Tw.Ps
/-
  Layer 17 (passage): the program's Vehicles.
-/
namespace Go.Proofs.YtbjhemglecllmaaDoor
open Go.RowKit Go.Tw Go.Tw.Ord Go.Tw.Ps Go.Sort
theorem sortWorld_at {α : Type} [Inhabited α] (enc : α → Value) (w : World) (blk off m : Nat) (dk : Array α) (os : Array Obj) {k : Nat} (hk : k < w.heap.size) (hne : k ≠ blk) :
    (sortWorld enc w blk off m dk os).heap[k]? = w.heap[k]? := by
  have h1 : (Sort.putRow enc (Sort.ahead w m) blk off dk).heap[k]? = w.heap[k]? := by
    unfold Sort.putRow Sort.mapBlock
    rw [show ∀ (h : Array Obj) (f : Obj → Obj), (h.modify blk f)[k]? = h[k]? from fun h f => by
      rw [Array.getElem?_modify, if_neg (fun e => hne e.symm)]]
    rfl
  have h2 : k < (Sort.putRow enc (Sort.ahead w m) blk off dk).heap.size := by
    unfold Sort.putRow Sort.mapBlock
    simp
    exact hk
  unfold sortWorld
  rw [Sort.heap_grow_old _ _ h2, h1]
/-- worlds that differ in block g alone, and in what was made -/
theorem below_put_rowS {B g : Nat} {w : World} {d : List (List UInt8)} {os : Array Obj} {n : Nat} (hB : B ≤ g) (hg : g < w.heap.size) : Below B w (grow (putRow encStr (Sort.ahead w n) g 0 d.toArray) os) := by
  refine Below.of_grown (row := some g) ⟨rfl, rfl, rfl, ?_, fun k hk hne => ?_⟩ (by omega) (fun k hk => by cases hk; exact hB)
  · show w.heap.size ≤ (_ ++ os).size
    simp [putRow, mapBlock, Sort.ahead]
  · exact sortWorld_at encStr w g 0 n d.toArray os hk (fun e => hne (by rw [e]))
theorem holds_putS {g n : Nat} {w : World} {l d : List (List UInt8)} {os : Array Obj} (h : Holds encStr w g 0 l.toArray) (hg : g < w.heap.size) (hl : d.length = l.length) : Holds encStr (grow (putRow encStr (Sort.ahead w n) g 0 d.toArray) os) g 0 d.toArray := by
  have h1 : Holds encStr (putRow encStr (Sort.ahead w n) g 0 d.toArray) g 0 d.toArray := holds_putRow _ _ _ _ l.toArray d.toArray (holds_ahead _ _ _ _ _ _ h) (by simpa using hl)
  exact holds_grow _ _ _ _ _ _ (by simp [putRow, mapBlock, Sort.ahead]; exact hg) h1
theorem own_grown_flat {α : Type} {T : Ty α} (hT : T.Flat) {e : TypeId} {B b : Nat} {w w' : World} {v : Value} {l : List α} (h : OwnSl T e B w v l) (hg : w.grownBy w' (some b)) (hb : b < B) : OwnSl T e B w' v l := by
  refine h.grown hg ?_ (fun css h => AllIs.flat hT h)
  cases hob : v.ownBlock with
  | none => exact Or.inl rfl
  | some q =>
    refine Or.inr fun e => ?_
    have := (h.own_lt q hob).1
    injection e with e
    omega
theorem flatStr : tStr.Flat := fun h => h
set_option maxRecDepth 100000 in
set_option maxHeartbeats 2000000 in
theorem vehicles_any (l : List Pas) (v : Value) (w : World) (h1 : SlIs (tPas eS) (· < w.heap.size) w v l) (hl : l.length ≤ 900) :
    Calls Tryd.prog 28 #[v] w fun e w' => (∃ v', e = .returned v' ∧ ∃ O, VehSpec l O ∧ SlIs tStr (· < w'.heap.size) w' v' O) ∧ Below w.heap.size w w' := by
  obtain ⟨ao, cp, g, o, rfl, q1, q2, ho⟩ := pas_row h1
  unfold maxLen at q2
  have HO := Lib.hid ho
  have HTG := Lib.hid (tags_any l _ w h1)
  have HOKS := Lib.hid (show ∀ y ∈ l, PasOk y from fun y hy => by
    obtain ⟨k, hk, rfl⟩ := List.getElem_of_mem hy
    exact (ho w (SameOn.refl _ _) k hk).2.2.2.1)
  clear h1 ho
  have hmm := @run_makeMap Tryd.prog
  go_enter Tryd.func28, Tryd.ntmps28
  go_wp2_with (go_at_call 51
               with_reducible refine HTG.out.mono ?_
               rintro e wt ⟨⟨rfl, hmt⟩, hbt⟩
               have HMT := Lib.hid hmt
               have HBT := Lib.hid hbt
               have HM0 := Lib.hid (MapIs.made (K := kStr) wt)
               clear hmt hbt)
  clear hmm
  go_loopg [5, 14] l.length (fun gx vv i wo => ∃ (k : Nat) (O : List ByteArray), k + gx = l.length ∧ i = .int .i64 k ∧ Hid (VehI l k O) ∧ Hid (∀ s ∈ O, s.size ≤ maxLen) ∧ OwnSl tStr 9 (wt.heap.size + 1) wo vv O ∧ MapIs kStr wo wt.heap.size (seenM O) k ∧ Below wt.heap.size wt wo ∧ wt.heap.size + 1 ≤ wo.heap.size)
  case atStart => exact ⟨0, [], by omega, rfl, Lib.hid (VehI.zero l), Lib.hid (by simp), OwnSl.nil _ _ _ _, HM0.out.ext (fun p => rfl), bl_alloc (Below.refl _ _) _, by simp⟩
  case round =>
    obtain ⟨wo, rfl⟩ : ∃ wo : World, wo = wr := ⟨_, rfl⟩
    obtain ⟨k, O, hk, rfl, HI, HSO, hown, hms, hb, hz⟩ := hrel
    have HB := Lib.hid hb
    have HOW := Lib.hid hown
    have HZ := Lib.hid hz
    have hbw : Below w.heap.size w wo := bl_trans HBT.out hb
    by_cases hlt : k < l.length
    · obtain ⟨rfl, -, hbk, hok, ax, nx, cx, hsx, hc⟩ := HO.out wo (.of_below hbw) k hlt
      have HTK := Lib.hid (show l.take (k + 1) = l.take k ++ [l[k]] from List.take_succ_eq_append_getElem hlt)
      generalize l[k] = x at HTK hc hok
      obtain ⟨A, hA⟩ : ∃ A, (pCells x (.slice ax nx cx)).toArray = A := ⟨_, rfl⟩
      have hs1 : A.size = 8 := by rw [← hA]; rfl
      have h1c : ∀ u ∈ A.toList, u.oneCell' = true := by rw [← hA]; exact pCells_one
      have ld0 : Sem.run Tryd.prog (loadCellsFrom ⟨g, o + k * 8, none⟩ 0 8 #[]) wo = .ok A wo := by
        rw [← hA]
        exact load_pas _ fun jj hjj => hc jj hjj
      have hba : Below wo.heap.size wo (wo.alloc (.cells A 24)) := bl_alloc (Below.refl _ _) _
      have HBA := Lib.hid hba
      have n0 : PBox (wo.alloc (.cells A 24)) wo.heap.size A := heap_alloc_new _ _
      have ldb := n0.load hA
      have HMS := Lib.hid hms
      obtain ⟨c, hcc⟩ : ∃ c, ownP l x = c := ⟨_, rfl⟩
      have HBC := Lib.hid (owner_any l x (.slice ax nx cx) w.heap.size l.length (wo.alloc (.cells A 24)) ((HMT.out.below hb).alloc _))
      have HSC := Lib.hid (ownP_size HOKS.out hok)
      rw [hA, hcc] at HBC
      rw [hcc] at HSC
      have HCC := Lib.hid hcc
      have HOL := Lib.hid (show O.length ≤ 1000 by have := HI.out.len; omega)
      have k0 : (0 : Int) ≤ (k : Int) := by omega
      have k1 : (k : Int) < (l.length : Int) := by omega
      clear hA hc hok hb hown hbk hsx hcc n0 hba hms hz hbw
      by_cases d1 : c = es
      · have e1 : c.toList.isEmpty = true := by rw [emp_iff]; simpa using d1
        have HN := Lib.hid (VehI.same HI.out HTK.out (Or.inl (HCC.out.trans d1)))
        clear d1
        go_wp2_with (first
          | (refine wpList_loadA _ rfl 24 rfl Tryd.isAgg24 Tryd.sizeOf24 rfl (by with_reducible assumption) ?_)
          | (refine wpList_newA 7 rfl (.tmp 17) rfl rfl 24 rfl rfl rfl Tryd.sizeOf24 Tryd.zeroValue24 rfl (by with_reducible assumption) (by with_reducible assumption) (by simp [Act.put]) rfl ?_)
          | (go_at_call 52
             with_reducible refine HBC.out.mono ?_
             rintro e w1 ⟨rfl, hg1⟩
             have hb1 := bl_trans HBA.out hg1.below
             have HB1 := Lib.hid (hb1.mono HB.out.size)
             have hlk := (HMS.out.below hb1).look Tryd.underlying74 Tryd.underlying9 (z := .bool false) (by kernel_rfl) c false
             rw [seenM_get] at hlk
             have hlk : (Instr.lookup 74 (.map (some wt.heap.size)) (.string c) false).run Tryd.prog w1 = .ok (.bool (hasS O c)) w1 := hlk
             have HW1 := Lib.hid hb1
             clear hg1 hb1 ld0))
        go_roundg (l.length - (k + 1))
        case measure => omega
        case rel => exact ⟨k + 1, O, by omega, by go_num, HN, HSO, HOW.out.below HW1.out, (HMS.out.below HW1.out).mono (Nat.le_succ _), HB.out.trans HB1.out, Nat.le_trans HZ.out HW1.out.size⟩
      · have e1 : c.toList.isEmpty = false := by rw [emp_iff]; simpa using d1
        by_cases d2 : c ∈ O
        · have e2 : hasS O c = true := hasS_iff.2 d2
          have HN := Lib.hid (VehI.same HI.out HTK.out (Or.inr (HCC.out.symm ▸ d2)))
          clear d1 d2
          go_wp2_with (first
            | (refine wpList_loadA _ rfl 24 rfl Tryd.isAgg24 Tryd.sizeOf24 rfl (by with_reducible assumption) ?_)
            | (refine wpList_newA 7 rfl (.tmp 17) rfl rfl 24 rfl rfl rfl Tryd.sizeOf24 Tryd.zeroValue24 rfl (by with_reducible assumption) (by with_reducible assumption) (by simp [Act.put]) rfl ?_)
            | (go_at_call 52
               with_reducible refine HBC.out.mono ?_
               rintro e w1 ⟨rfl, hg1⟩
               have hb1 := bl_trans HBA.out hg1.below
               have HB1 := Lib.hid (hb1.mono HB.out.size)
               have hlk := (HMS.out.below hb1).look Tryd.underlying74 Tryd.underlying9 (z := .bool false) (by kernel_rfl) c false
               rw [seenM_get] at hlk
               have hlk : (Instr.lookup 74 (.map (some wt.heap.size)) (.string c) false).run Tryd.prog w1 = .ok (.bool (hasS O c)) w1 := hlk
               have HW1 := Lib.hid hb1
               clear hg1 hb1 ld0; rw [e2] at hlk))
          go_roundg (l.length - (k + 1))
          case measure => omega
          case rel => exact ⟨k + 1, O, by omega, by go_num, HN, HSO, HOW.out.below HW1.out, (HMS.out.below HW1.out).mono (Nat.le_succ _), HB.out.trans HB1.out, Nat.le_trans HZ.out HW1.out.size⟩
        · have e2 : hasS O c = false := hasS_no.2 d2
          have HN := Lib.hid (show VehI l (k + 1) (O ++ [c]) from HCC.out ▸ VehI.next HI.out HTK.out (by rw [HCC.out]; exact d1) (by rw [HCC.out]; exact d2))
          have HSN := Lib.hid (show ∀ s ∈ O ++ [c], s.size ≤ maxLen from fun s hs => by
            rcases List.mem_append.1 hs with hs | hs
            · exact HSO.out s hs
            · simp at hs; subst hs; exact HSC.out)
          clear d1 d2
          go_wp2_with (first
            | (refine wpList_loadA _ rfl 24 rfl Tryd.isAgg24 Tryd.sizeOf24 rfl (by with_reducible assumption) ?_)
            | (refine wpList_newA 7 rfl (.tmp 17) rfl rfl 24 rfl rfl rfl Tryd.sizeOf24 Tryd.zeroValue24 rfl (by with_reducible assumption) (by with_reducible assumption) (by simp [Act.put]) rfl ?_)
            | (go_at_call 52
               with_reducible refine HBC.out.mono ?_
               rintro e w1 ⟨rfl, hg1⟩
               have hb1 := bl_trans HBA.out hg1.below
               have HB1 := Lib.hid (hb1.mono HB.out.size)
               have hlk := (HMS.out.below hb1).look Tryd.underlying74 Tryd.underlying9 (z := .bool false) (by kernel_rfl) c false
               rw [seenM_get] at hlk
               have hlk : (Instr.lookup 74 (.map (some wt.heap.size)) (.string c) false).run Tryd.prog w1 = .ok (.bool (hasS O c)) w1 := hlk
               have HW1 := Lib.hid hb1
               clear hg1 hb1 ld0
               rw [e2] at hlk
               have HM1 := Lib.hid (HMS.out.below HW1.out)
               have HO1 := Lib.hid (HOW.out.below HW1.out)
               have HZ1 := Lib.hid (Nat.le_trans HZ.out HW1.out.size))
            | (at_mapUpdate
               refine wpList_put (.tmp 29) (.tmp 30) (.const (.bool true)) rfl 74 rfl Tryd.underlying74 Tryd.underlying9 HM1.out rfl c (.string c) (.bool true) rfl rfl rfl ?_
               intro w2 hm2 hg2
               have HM2 := Lib.hid (hm2.ext (seenM_put O c))
               have HB2 := Lib.hid ((HB.out.trans HB1.out).grown hg2 (Nat.le_trans (Nat.le_succ _) HZ1.out) (fun k hk => by cases hk; exact Nat.le_refl _))
               have HZ2 := Lib.hid (Nat.le_trans HZ1.out hg2.size)
               have hz2 := HZ2.out
               have HO2 := Lib.hid (own_grown_flat flatStr HO1.out hg2 (Nat.lt_succ_self _))
               clear hm2 hg2 hlk)
            | (at_builtin
               refine wpList_append_one (.tmp 31) (.tmp 33) rfl 46 rfl slStr rfl HO2.out rfl (S := fun _ => False) (y := c) ⟨rfl, HSC.out⟩ (fun _ h => h.elim) (small_bytes (k := 1001) (by have := HOL.out; omega) (by decide)) (by have := HOL.out; unfold maxLen; omega) hz2 ?_
               intro v6 w6 ho6 hg6 hb6
               have HO6 := Lib.hid ho6
               have HB6 := Lib.hid (HB2.out.trans (hb6.mono (Nat.le_succ _)))
               have HM6 := Lib.hid (HM2.out.kept (hb6.block _ (Nat.lt_succ_self _)))
               have HZ6 := Lib.hid (Nat.le_trans HZ2.out hb6.size)
               clear ho6 hg6 hb6))
          go_roundg (l.length - (k + 1))
          case measure => omega
          case rel => exact ⟨k + 1, O ++ [c], by omega, by go_num, HN, HSN, HO6.out, HM6.out, HB6.out, HZ6.out⟩
    · obtain rfl : k = l.length := by omega
      have hkl : ¬ (l.length : Int) < (l.length : Int) := by omega
      have HSP := Lib.hid HI.out.done
      have HOL := Lib.hid (show O.length ≤ 1000 by have := HI.out.len; omega)
      have HBW := Lib.hid hbw
      have HBZ := Lib.hid (show w.heap.size ≤ wt.heap.size + 1 by have := HBT.out.size; omega)
      clear hb hz hms hbw hlt hk
      rcases own_strs hown with ⟨rfl, rfl⟩ | ⟨gb, cap, rfl, p1, p2, p3, p4, p5⟩
      · clear hown
        go_wp2_with (go_at_call 54
                     refine (Tryd.slices_Sort_string_none none 0 wo).mono ?_
                     rintro e w1 ⟨rfl, rfl⟩)
        go_ret
        exact ⟨⟨_, rfl, [], by simpa using HSP.out, SlIs.nil⟩, HBW.out⟩
      · have hg := p4.lt
        have hH := holdsS p4
        unfold maxLen at p2
        have hS1 := Tryd.slices_Sort_string gb 0 cap (O.map kb) wo hH hg (by rw [List.length_map]; have := HOL.out; omega)
        rw [List.length_map] at hS1
        have hsl : ((O.map kb).mergeSort leK).length = (O.map kb).length := List.length_mergeSort _
        have hso : ∀ x ∈ (O.map kb).mergeSort leK, (ofB x).size ≤ maxLen := fun x hx => by
          obtain ⟨s, hs, rfl⟩ := List.mem_map.1 ((List.mergeSort_perm _ _).mem_iff.1 hx)
          rw [ofB_kb]
          exact HSO.out s hs
        have HS1 := Lib.hid hS1
        have HPH := Lib.hid (show ∀ (n : Nat) (os : Array Obj), Holds encStr (grow (putRow encStr (Sort.ahead wo n) gb 0 ((O.map kb).mergeSort leK).toArray) os) gb 0 ((O.map kb).mergeSort leK).toArray ∧ Below w.heap.size w (grow (putRow encStr (Sort.ahead wo n) gb 0 ((O.map kb).mergeSort leK).toArray) os) ∧ wo.heap.size ≤ (grow (putRow encStr (Sort.ahead wo n) gb 0 ((O.map kb).mergeSort leK).toArray) os).heap.size from fun n os =>
          ⟨holds_putS hH hg hsl, HBW.out.trans (below_put_rowS (Nat.le_trans HBZ.out p3) hg), (below_put_rowS (Nat.le_refl _) hg).size⟩)
        have HSL := Lib.hid (show ((O.map kb).mergeSort leK).length = O.length from hsl.trans (List.length_map _))
        have HSS := Lib.hid hso
        have HG := Lib.hid hg
        have HP1 := Lib.hid p1
        have HP2 := Lib.hid p2
        clear hown hH hg hS1 hsl hso p1 p2 p3 p4 p5 HOW
        generalize (O.map kb).mergeSort leK = ss at HSP HS1 HPH HSL HSS
        go_wp2_with (go_at_call 54
                     refine HS1.out.mono ?_
                     rintro e w1 ⟨rfl, n1, os1, hw1⟩
                     obtain ⟨hh1, hb1, hz1⟩ := HPH.out n1 os1
                     rw [← hw1] at hh1 hb1 hz1
                     clear hw1
                     have HH1 := Lib.hid hh1
                     have HB1 := Lib.hid hb1
                     have HZ1 := Lib.hid hz1
                     clear hh1 hb1 hz1)
        go_ret
        exact ⟨⟨_, rfl, ss.map ofB, HSP.out, slS_of HH1.out (Nat.lt_of_lt_of_le HG.out HZ1.out) HSL.out HP1.out (by have := HP2.out; unfold maxLen; omega) HSS.out⟩, HB1.out⟩
end Go.Proofs.YtbjhemglecllmaaDoor
/-
  Layer 17 (passage) in plain Lean: transponder numbers, decimal numerals.
-/
namespace Go.Tw.Ps
open Go.RowKit Go.Tw Go.Sort Go.Tw.Ord
/-- what a digit adds to the sum of the Luhn rule -/
def lw (i : Nat) (c : Int) : Int := if i % 2 = 0 then (if 9 < 2 * (c - 48) then 2 * (c - 48) - 9 else 2 * (c - 48)) else c - 48
def luhnN (s : ByteArray) : Nat → Int
  | 0 => 0
  | k + 1 => luhnN s k + (if h : k < s.size then lw k s[k].toNat else 0)
theorem luhn_next (s : ByteArray) {k : Nat} (h : k < s.size) : luhnN s (k + 1) = luhnN s k + lw k s[k].toNat := by rw [luhnN, dif_pos h]
def digP (s : ByteArray) : Prop := ∀ i (h : i < s.size), 48 ≤ s[i].toNat ∧ s[i].toNat ≤ 57
theorem lw_bounds {i : Nat} {c : Int} (h1 : 48 ≤ c) (h2 : c ≤ 57) : 0 ≤ lw i c ∧ lw i c ≤ 9 := by
  unfold lw
  split
  · split <;> omega
  · omega
theorem luhn_bounds {s : ByteArray} (h : digP s) : ∀ k, k ≤ s.size → 0 ≤ luhnN s k ∧ luhnN s k ≤ 9 * k
  | 0, _ => by unfold luhnN; omega
  | k + 1, hk => by
    have h1 := luhn_bounds h k (by omega)
    have h2 := h k (by omega)
    have h3 := lw_bounds (i := k) (c := s[k].toNat) (by omega) (by omega)
    rw [luhn_next s (by omega)]
    omega
def tagP (s : ByteArray) : Prop := digP s ∧ s.size = 12 ∧ luhnN s s.size % 10 = 0
open Classical in
/-- the error of a transponder number -/
noncomputable def tagE (e : Int) (s : ByteArray) : Int := if tagP s then 0 else e
theorem tag_yes {e : Int} {s : ByteArray} (h : tagP s) : tagE e s = 0 := by unfold tagE; rw [if_pos h]
theorem tag_no {e : Int} {s : ByteArray} (h : ¬ tagP s) : tagE e s = e := by unfold tagE; rw [if_neg h]

/-- the text of a number -/
def fmtS (n : Int) : ByteArray := ofB (Lib.itoa n)
/-- digits of a number, then others -/
def digsTo (a : Nat) (s : List UInt8) : List UInt8 := if a = 0 then s else Lib.decDigits a ++ s
theorem digs_next {a : Nat} (h : a ≠ 0) (s : List UInt8) : digsTo a s = digsTo (a / 10) (UInt8.ofNat (48 + a % 10) :: s) := by
  unfold digsTo
  rw [if_neg h]
  by_cases h2 : a < 10
  · rw [Lib.decDigits_one h2, if_pos (by omega), Nat.mod_eq_of_lt h2]
    rfl
  · rw [if_neg (by omega)]
    conv => lhs; rw [Lib.decDigits, dif_neg h2]
    rw [List.append_assoc]
    rfl
theorem fmt_zero : fmtS 0 = ofB [48] := by
  unfold fmtS Lib.itoa
  rw [if_neg (by decide), show (0 : Int).toNat = 0 from rfl, Lib.decDigits_one (by decide)]
  rfl
theorem fmt_pos {n : Int} {s : List UInt8} (h0 : n ≠ 0) (h1 : ¬ n < 0) (h : digsTo n.natAbs [] = digsTo 0 s) : fmtS n = ofB s := by
  unfold fmtS Lib.itoa
  rw [if_neg h1]
  unfold digsTo at h
  rw [if_neg (by omega), if_pos rfl, List.append_nil] at h
  rw [← h]
  congr 2
  omega
theorem fmt_neg {n : Int} {s : List UInt8} (h1 : n < 0) (h : digsTo n.natAbs [] = digsTo 0 s) : fmtS n = ofB (45 :: s) := by
  unfold fmtS Lib.itoa
  rw [if_pos h1]
  unfold digsTo at h
  rw [if_neg (by omega), if_pos rfl, List.append_nil] at h
  rw [h]
end Go.Tw.Ps
/-
  Layer 17 (passage): tag.Check and tollwayref11.Check; tollwayref01.Format.
-/
namespace Go.Tw.Ps
open Go.RowKit Go.Tw
open Classical in
noncomputable def digC (s : ByteArray) : Bool := decide (digP s ∧ s.size = 12)
theorem dig_yes {s : ByteArray} (h : digP s) (h2 : s.size = 12) : digC s = true := by simp [digC, h, h2]
theorem dig_no {s : ByteArray} (h : ¬ (digP s ∧ s.size = 12)) : digC s = false := by simp [digC, h]
end Go.Tw.Ps
namespace Go.Proofs.YtbjhemglecllmaaDoor
open Go.RowKit Go.Tw Go.Tw.Ps
set_option maxRecDepth 100000 in
set_option maxHeartbeats 1000000 in
theorem digits_any (s : ByteArray) (w : World) : Calls Tryd.prog 77 #[.string s, .int .i64 12] w fun e w' => e = .returned (.bool (digC s)) ∧ (digC s = true → digP s ∧ s.size = 12) ∧ Below w.heap.size w w' := by
  have HT := Lib.hid (show digC s = true → digP s ∧ s.size = 12 from fun h => Classical.byContradiction fun hn => by rw [dig_no hn] at h; cases h)
  go_enter Tryd.func77, Tryd.ntmps77
  go_wp2
  go_loopw [6] (fun n w' => ∃ (pos : Nat), w' = w.iter s pos ∧ pos ≤ s.size ∧ (∀ i (h : i < pos) (h2 : i < s.size), 48 ≤ s[i].toNat ∧ s[i].toNat ≤ 57)) (fun _ w' => s.size - w'.iterPos w.heap.size)
  case atStart => exact ⟨0, rfl, Nat.zero_le _, fun i h => absurd h (Nat.not_lt_zero _)⟩
  case round =>
    obtain ⟨pos, rfl, hps, hall⟩ := hrel
    have HA := Lib.hid hall; clear hall
    by_cases hp : pos < s.size
    case neg =>
      have hnx : ∀ ty, (Instr.next (.pointer (some ⟨w.heap.size, 0, none⟩)) true ty).run Tryd.prog (w.iter s pos) = _ := fun ty => run_next_end w s pos ty hp
      have hD : digP s := fun i h => HA.out i (by omega) h
      by_cases h12 : s.size = 12
      · have h12' : ((s.size : Int) == 12) = true := by rw [h12]; rfl
        have HY := Lib.hid (dig_yes hD h12)
        clear h12
        go_wp2
        go_ret
        exact ⟨ret_bool HY.out, HT.out, bl_alloc (Below.refl _ _) _⟩
      · have h12' : ((s.size : Int) == 12) = false := by rw [beq_eq_false_iff_ne]; omega
        have HY := Lib.hid (dig_no (s := s) (fun h => h12 h.2))
        clear h12
        go_wp2
        go_ret
        exact ⟨ret_bool HY.out, HT.out, bl_alloc (Below.refl _ _) _⟩
    by_cases ha : (s[pos]'hp).toNat < 128
    case neg =>
      have hnx : ∀ ty, (Instr.next (.pointer (some ⟨w.heap.size, 0, none⟩)) true ty).run Tryd.prog (w.iter s pos) = _ := fun ty => run_next_any w s pos ty hp
      have hd := (decode_high s pos hp (by omega)).1
      generalize Utf8.decode s pos = r at hnx hd
      have HB := Lib.hid (dig_no (s := s) (fun h => by have := h.1 pos hp; omega))
      have g4 : ¬ (r.1 : Int) < 48 := by omega
      have g5 : (57 : Int) < (r.1 : Int) := by omega
      go_wp2
      all_goals first
        | (go_ret; exact ⟨ret_bool HB.out, HT.out, bl_alloc (Below.refl _ _) _⟩)
        | (exfalso; rename_i hh; simp at hh; omega)
    have hnx : ∀ ty, (Instr.next (.pointer (some ⟨w.heap.size, 0, none⟩)) true ty).run Tryd.prog (w.iter s pos) = _ := fun ty => run_next_ascii w s pos ty hp ha
    obtain ⟨b, hb⟩ : ∃ b : Nat, b = (s[pos]'hp).toNat := ⟨_, rfl⟩
    rw [← hb] at hnx
    have HN := Lib.hid hb; clear hb
    have hz : (48 ≤ b ∧ b ≤ 57) ∨ b < 48 ∨ (48 ≤ b ∧ 57 < b) := by omega
    rcases hz with ⟨z1, z2⟩ | z1 | ⟨z1, z2⟩
    · have g1 : (48 : Int) ≤ (b : Int) := by omega
      have g2 : (b : Int) ≤ 57 := by omega
      go_wp2
      go_roundw
      case measure => simp; omega
      case rel =>
        refine ⟨pos + 1, rfl, by omega, fun i h h2 => ?_⟩
        by_cases e : i = pos
        · subst e; have := HN.out; omega
        · exact HA.out i (by omega) h2
    · have g1 : (b : Int) < 48 := by omega
      have HB := Lib.hid (dig_no (s := s) (fun h => by have := h.1 pos hp; have := HN.out; omega))
      go_wp2
      go_ret
      exact ⟨ret_bool HB.out, HT.out, bl_alloc (Below.refl _ _) _⟩
    · have g1 : (48 : Int) ≤ (b : Int) := by omega
      have g2 : (57 : Int) < (b : Int) := by omega
      have HB := Lib.hid (dig_no (s := s) (fun h => by have := h.1 pos hp; have := HN.out; omega))
      go_wp2
      go_ret
      exact ⟨ret_bool HB.out, HT.out, bl_alloc (Below.refl _ _) _⟩
theorem two_ways (k : Nat) : (Hid (k % 2 = 0) ∧ Int.tmod (k : Int) 2 = 0) ∨ (Hid (¬ k % 2 = 0) ∧ Int.tmod (k : Int) 2 = 1) := by
  have e : Int.tmod (k : Int) 2 = ((k % 2 : Nat) : Int) := by
    rw [Int.tmod_eq_emod_of_nonneg (by omega)]
    omega
  by_cases h : k % 2 = 0
  · exact Or.inl ⟨Lib.hid h, by rw [e, h]; rfl⟩
  · exact Or.inr ⟨Lib.hid h, by rw [e]; omega⟩
set_option maxRecDepth 100000 in
set_option maxHeartbeats 1000000 in
theorem luhn_any (s : ByteArray) (w : World) (hd : digP s) (hl : s.size ≤ 1000) : Calls Tryd.prog 78 #[.string s] w fun e w' => e = .returned (.int .i64 (luhnN s s.size)) ∧ Below w.heap.size w w' := by
  have HD := Lib.hid hd
  clear hd
  go_enter Tryd.func78, Tryd.ntmps78
  go_wp2
  go_loopw [3] (fun n w' => ∃ (pos : Nat) (z : Int), w' = w.iter s pos ∧ pos ≤ s.size ∧ n = .int .i64 z ∧ Hid (z = luhnN s pos)) (fun _ w' => s.size - w'.iterPos w.heap.size)
  case atStart => exact ⟨0, 0, rfl, Nat.zero_le _, rfl, Lib.hid rfl⟩
  case round =>
    obtain ⟨pos, z, rfl, hps, rfl, HZ⟩ := hrel
    have hzb := luhn_bounds HD.out pos hps
    rw [← HZ.out] at hzb
    obtain ⟨hz1, hz2⟩ := hzb
    by_cases hp : pos < s.size
    case neg =>
      have hnx : ∀ ty, (Instr.next (.pointer (some ⟨w.heap.size, 0, none⟩)) true ty).run Tryd.prog (w.iter s pos) = _ := fun ty => run_next_end w s pos ty hp
      have HY := Lib.hid (show z = luhnN s s.size from by rw [HZ.out, show pos = s.size by omega])
      clear hz1 hz2
      go_wp2
      go_ret
      exact ⟨congrArg (fun q => Ending.returned (.int .i64 q)) HY.out, bl_alloc (Below.refl _ _) _⟩
    have hdp := HD.out pos hp
    have ha : (s[pos]'hp).toNat < 128 := by omega
    have hnx : ∀ ty, (Instr.next (.pointer (some ⟨w.heap.size, 0, none⟩)) true ty).run Tryd.prog (w.iter s pos) = _ := fun ty => run_next_ascii w s pos ty hp ha
    have HNX := Lib.hid (luhn_next s hp)
    obtain ⟨b, hb⟩ : ∃ b : Nat, b = (s[pos]'hp).toNat := ⟨_, rfl⟩
    rw [← hb] at hnx HNX hdp
    obtain ⟨g1, g2⟩ := hdp
    have g3 : (48 : Int) ≤ (b : Int) := by omega
    have g4 : (b : Int) ≤ 57 := by omega
    have hz3 : z ≤ 9000 := by omega
    clear hb hz2 ha
    rcases two_ways pos with ⟨q1, q2⟩ | ⟨q1, q2⟩
    · by_cases q3 : 9 < ((b : Int) - 48) * 2
      · have HW := Lib.hid (show lw pos b = ((b : Int) - 48) * 2 - 9 by unfold lw; rw [if_pos q1.out, if_pos (by omega)]; omega)
        go_wp2
        go_roundw
        case measure => simp; omega
        case rel => exact ⟨pos + 1, _, rfl, by omega, rfl, Lib.hid (by rw [HNX.out, HW.out, HZ.out])⟩
      · have HW := Lib.hid (show lw pos b = ((b : Int) - 48) * 2 by unfold lw; rw [if_pos q1.out, if_neg (by omega)]; omega)
        go_wp2
        go_roundw
        case measure => simp; omega
        case rel => exact ⟨pos + 1, _, rfl, by omega, rfl, Lib.hid (by rw [HNX.out, HW.out, HZ.out])⟩
    · have HW := Lib.hid (show lw pos b = (b : Int) - 48 by unfold lw; rw [if_neg q1.out])
      go_wp2
      go_roundw
      case measure => simp; omega
      case rel => exact ⟨pos + 1, _, rfl, by omega, rfl, Lib.hid (by rw [HNX.out, HW.out, HZ.out])⟩
end Go.Proofs.YtbjhemglecllmaaDoor
/-
  Layer 17 (passage): tag.Check, tollwayref11.Check, tollwayref01.Format.
-/
namespace Go.Tw.Ps
open Go.RowKit Go.Tw
open Classical in
noncomputable def sumR (s : ByteArray) : Int := if digP s then luhnN s s.size else -1
theorem sumR_yes {s : ByteArray} (h : digP s) : sumR s = luhnN s s.size := by unfold sumR; rw [if_pos h]
theorem sumR_no {s : ByteArray} (h : ¬ digP s) : sumR s = -1 := by unfold sumR; rw [if_neg h]
theorem mod_ten (z : Int) : (Hid (z % 10 = 0) ∧ (z % 10 != 0) = false) ∨ (Hid (¬ z % 10 = 0) ∧ (z % 10 != 0) = true) := by
  by_cases q : z % 10 = 0
  · exact Or.inl ⟨Lib.hid q, by rw [q]; rfl⟩
  · exact Or.inr ⟨Lib.hid q, by simpa using q⟩
theorem tdiv_ways (m : Int) : (0 ≤ m ∧ Int.tdiv m 10 = m / 10 ∧ Int.tmod m 10 = m % 10) ∨ (m < 0 ∧ Int.tdiv m 10 = -((-m) / 10) ∧ Int.tmod m 10 = -((-m) % 10)) := by
  by_cases h : 0 ≤ m
  · exact Or.inl ⟨h, Int.tdiv_eq_ediv_of_nonneg h, Int.tmod_eq_emod_of_nonneg h⟩
  · refine Or.inr ⟨by omega, ?_, ?_⟩
    · conv => lhs; rw [show m = - -m by omega, Int.neg_tdiv]
      rw [Int.tdiv_eq_ediv_of_nonneg (by omega)]
    · conv => lhs; rw [show m = - -m by omega, Int.neg_tmod]
      rw [Int.tmod_eq_emod_of_nonneg (by omega)]
end Go.Tw.Ps
namespace Go.Proofs.YtbjhemglecllmaaDoor
open Go.RowKit Go.Tw Go.Tw.Ps
theorem ofB_app (a b : List UInt8) : ofB a ++ ofB b = ofB (a ++ b) := by
  apply ByteArray.ext
  simp [ofB]
theorem digit_slice {r : Nat} (hr : (r : Int) + 1 ≤ 10) (w : World) : (Instr.slice 9 (.string ⟨#[48, 49, 50, 51, 52, 53, 54, 55, 56, 57]⟩) (some (.int .i64 r)) (some (.int .i64 ((r : Int) + 1))) none).run Tryd.prog w = .ok (.string (ofB [UInt8.ofNat (48 + r)])) w := by
  rw [run_slice_string w 9 _ .i64 .i64 _ _ Tryd.underlying9 (by omega) (by omega) (by show (r : Int) + 1 ≤ ((10 : Nat) : Int); omega)]
  have h : r = 0 ∨ r = 1 ∨ r = 2 ∨ r = 3 ∨ r = 4 ∨ r = 5 ∨ r = 6 ∨ r = 7 ∨ r = 8 ∨ r = 9 := by omega
  rcases h with rfl | rfl | rfl | rfl | rfl | rfl | rfl | rfl | rfl | rfl <;> rfl
theorem ret_sv {a b : ByteArray} (h : a = b) : Ending.returned (.string b) = .returned (.string a) := by rw [h]
theorem ret_i {a b : Int} (h : a = b) : Ending.returned (.int .i64 b) = .returned (.int .i64 a) := by rw [h]
set_option maxRecDepth 100000 in
set_option maxHeartbeats 1000000 in
theorem tagCheck_any (s : ByteArray) (w : World) : Calls Tryd.prog 60 #[.string s] w fun e w' => e = .returned (.int .i64 (tagE 18 s)) ∧ Below w.heap.size w w' := by
  have HD := Lib.hid (digits_any s w)
  obtain ⟨c, hc⟩ : ∃ c, digC s = c := ⟨_, rfl⟩
  rw [hc] at HD
  have HC := Lib.hid hc
  clear hc
  cases c with
  | false =>
    have HN := Lib.hid (show tagE 18 s = 18 from tag_no fun h => by
      have := HC.out
      rw [dig_yes h.1 h.2.1] at this
      cases this)
    go_enter Tryd.func60, Tryd.ntmps60
    go_wp2_with (go_at_call 77
                 with_reducible refine HD.out.mono ?_
                 rintro e w1 ⟨rfl, -, hb1⟩
                 have HB1 := Lib.hid hb1
                 clear hb1)
    go_ret
    exact ⟨ret_i HN.out, HB1.out⟩
  | true =>
    have hdd : digP s ∧ s.size = 12 := Classical.byContradiction fun hn => by
      have := HC.out
      rw [dig_no hn] at this
      cases this
    have HDD := Lib.hid hdd
    have hlb := luhn_bounds hdd.1 s.size (Nat.le_refl _)
    have HL := Lib.hid (fun (w' : World) => luhn_any s w' hdd.1 (by omega))
    have HT := Lib.hid (show luhnN s s.size % 10 = 0 → tagE 18 s = 0 from fun h => tag_yes ⟨hdd.1, hdd.2, h⟩)
    have HF := Lib.hid (show ¬ luhnN s s.size % 10 = 0 → tagE 18 s = 18 from fun h => tag_no fun q => h q.2.2)
    obtain ⟨z, hz⟩ : ∃ z, luhnN s s.size = z := ⟨_, rfl⟩
    rw [hz] at hlb HL HT HF
    obtain ⟨z1, z2⟩ := hlb
    have z3 : z ≤ 1000 := by rw [hdd.2] at z2; omega
    clear hz hdd z2
    have z4 : decide (z < 0) = false := by rw [decide_eq_false_iff_not]; omega
    rcases mod_ten z with ⟨q1, q2⟩ | ⟨q1, q2⟩
    · go_enter Tryd.func60, Tryd.ntmps60
      go_wp2_with (first
        | (go_at_call 77
           with_reducible refine HD.out.mono ?_
           rintro e w1 ⟨rfl, -, hb1⟩
           have HB1 := Lib.hid hb1
           clear hb1)
        | (go_at_call 78
           with_reducible refine (HL.out _).mono ?_
           rintro e w2 ⟨rfl, hb2⟩
           have HB2 := Lib.hid (bl_trans HB1.out hb2)
           clear hb2))
      go_ret
      exact ⟨ret_i (HT.out q1.out), HB2.out⟩
    · go_enter Tryd.func60, Tryd.ntmps60
      go_wp2_with (first
        | (go_at_call 77
           with_reducible refine HD.out.mono ?_
           rintro e w1 ⟨rfl, -, hb1⟩
           have HB1 := Lib.hid hb1
           clear hb1)
        | (go_at_call 78
           with_reducible refine (HL.out _).mono ?_
           rintro e w2 ⟨rfl, hb2⟩
           have HB2 := Lib.hid (bl_trans HB1.out hb2)
           clear hb2))
      go_ret
      exact ⟨ret_i (HF.out q1.out), HB2.out⟩
set_option maxRecDepth 100000 in
set_option maxHeartbeats 1000000 in
theorem sumR_any (s : ByteArray) (w : World) (hl : s.size ≤ 1000) : Calls Tryd.prog 67 #[.string s] w fun e w' => e = .returned (.int .i64 (sumR s)) ∧ Below w.heap.size w w' := by
  go_enter Tryd.func67, Tryd.ntmps67
  go_wp2
  go_loopg [3, 4] s.size (fun g n i wr => ∃ (k : Nat) (z : Int), k + g = s.size ∧ i = .int .i64 k ∧ n = .int .i64 z ∧ Hid (z = luhnN s k) ∧ 0 ≤ z ∧ z ≤ 9 * k ∧ Hid (∀ i (h : i < k) (h2 : i < s.size), 48 ≤ s[i].toNat ∧ s[i].toNat ≤ 57) ∧ w = wr)
  case atStart => exact ⟨0, 0, by omega, rfl, rfl, Lib.hid rfl, by omega, by omega, Lib.hid (fun i h => absurd h (Nat.not_lt_zero _)), rfl⟩
  case round =>
    obtain ⟨k, z, hk, rfl, rfl, HZ, z1, z2, HA, rfl⟩ := hrel
    by_cases hlt : k < s.size
    case neg =>
      have HY := Lib.hid (show sumR s = z from by
        rw [HZ.out, show k = s.size by omega]
        exact sumR_yes fun i h => HA.out i (by omega) h)
      clear z1 z2
      go_wp2
      go_ret
      exact ⟨ret_i HY.out, Below.refl _ _⟩
    have k0 : (0 : Int) ≤ (k : Int) := by omega
    have k1 : (k : Int) < (s.size : Int) := by omega
    have hb := s[k].toNat_lt
    have HNX := Lib.hid (luhn_next s hlt)
    have z3 : z ≤ 9000 := by omega
    have hz : (48 ≤ s[k].toNat ∧ s[k].toNat ≤ 57) ∨ s[k].toNat < 48 ∨ (48 ≤ s[k].toNat ∧ 57 < s[k].toNat) := by omega
    rcases hz with ⟨q1, q2⟩ | q1 | ⟨q1, q2⟩
    · have g1 : (48 : Int) ≤ (s[k].toNat : Int) := by omega
      have g2 : (s[k].toNat : Int) ≤ 57 := by omega
      have HLB := Lib.hid (lw_bounds (i := k) (c := (s[k].toNat : Int)) g1 g2)
      have HQ := Lib.hid (show ∀ i (h : i < k + 1) (h2 : i < s.size), 48 ≤ s[i].toNat ∧ s[i].toNat ≤ 57 from fun i h h2 => by
        by_cases e : i = k
        · subst e; exact ⟨q1, q2⟩
        · exact HA.out i (by omega) h2)
      have HZ2 := Lib.hid z2
      clear q1 q2 hb z2
      rcases two_ways k with ⟨t1, t2⟩ | ⟨t1, t2⟩
      · by_cases q3 : 9 < 2 * ((s[k].toNat : Int) - 48)
        · have HW := Lib.hid (show lw k (s[k].toNat : Int) = 2 * ((s[k].toNat : Int) - 48) - 9 by unfold lw; rw [if_pos t1.out, if_pos q3])
          go_wp2
          go_roundg (s.size - (k + 1))
          case measure => omega
          case rel => exact ⟨k + 1, _, by omega, by go_num, rfl, Lib.hid (by rw [HNX.out, HW.out, HZ.out]), by omega, by have := HZ2.out; omega, HQ, rfl⟩
        · have HW := Lib.hid (show lw k (s[k].toNat : Int) = 2 * ((s[k].toNat : Int) - 48) by unfold lw; rw [if_pos t1.out, if_neg q3])
          go_wp2
          go_roundg (s.size - (k + 1))
          case measure => omega
          case rel => exact ⟨k + 1, _, by omega, by go_num, rfl, Lib.hid (by rw [HNX.out, HW.out, HZ.out]), by omega, by have := HZ2.out; omega, HQ, rfl⟩
      · have HW := Lib.hid (show lw k (s[k].toNat : Int) = (s[k].toNat : Int) - 48 by unfold lw; rw [if_neg t1.out])
        by_cases q3 : 9 < (s[k].toNat : Int) - 48
        · omega
        · go_wp2
          go_roundg (s.size - (k + 1))
          case measure => omega
          case rel => exact ⟨k + 1, _, by omega, by go_num, rfl, Lib.hid (by rw [HNX.out, HW.out, HZ.out]), by omega, by have := HZ2.out; omega, HQ, rfl⟩
    · have g1 : (s[k].toNat : Int) < 48 := by omega
      have HY := Lib.hid (show sumR s = -1 from sumR_no fun h => by have := h k hlt; omega)
      clear q1 hb z2
      go_wp2
      go_ret
      exact ⟨ret_i HY.out, Below.refl _ _⟩
    · have g1 : (48 : Int) ≤ (s[k].toNat : Int) := by omega
      have g2 : (57 : Int) < (s[k].toNat : Int) := by omega
      have HY := Lib.hid (show sumR s = -1 from sumR_no fun h => by have := h k hlt; omega)
      clear q1 q2 hb z2
      go_wp2
      go_ret
      exact ⟨ret_i HY.out, Below.refl _ _⟩
set_option maxRecDepth 100000 in
set_option maxHeartbeats 1000000 in
theorem tagCheckR_any (s : ByteArray) (w : World) : Calls Tryd.prog 40 #[.string s] w fun e w' => e = .returned (.int .i64 (tagE 18 s)) ∧ Below w.heap.size w w' := by
  by_cases h12 : s.size = 12
  · have hz' : ((s.size : Int) != 12) = false := by rw [h12]; rfl
    have HS := Lib.hid (sumR_any s w (by omega))
    have H12 := Lib.hid h12
    clear h12
    by_cases hd : digP s
    · have hlb := luhn_bounds hd s.size (Nat.le_refl _)
      have HT := Lib.hid (show luhnN s s.size % 10 = 0 → tagE 18 s = 0 from fun h => tag_yes ⟨hd, H12.out, h⟩)
      have HF := Lib.hid (show ¬ luhnN s s.size % 10 = 0 → tagE 18 s = 18 from fun h => tag_no fun q => h q.2.2)
      rw [sumR_yes hd] at HS
      obtain ⟨z, hz⟩ : ∃ z, luhnN s s.size = z := ⟨_, rfl⟩
      rw [hz] at hlb HS HT HF
      obtain ⟨z1, z2⟩ := hlb
      have z3 : z ≤ 1000 := by have := H12.out; omega
      clear hz z2 hd
      have z4 : decide (z < 0) = false := by rw [decide_eq_false_iff_not]; omega
      rcases mod_ten z with ⟨q1, q2⟩ | ⟨q1, q2⟩
      · go_enter Tryd.func40, Tryd.ntmps40
        go_wp2_with (go_at_call 67
                     with_reducible refine HS.out.mono ?_
                     rintro e w1 ⟨rfl, hb1⟩
                     have HB1 := Lib.hid hb1
                     clear hb1)
        go_ret
        exact ⟨ret_i (HT.out q1.out), HB1.out⟩
      · go_enter Tryd.func40, Tryd.ntmps40
        go_wp2_with (go_at_call 67
                     with_reducible refine HS.out.mono ?_
                     rintro e w1 ⟨rfl, hb1⟩
                     have HB1 := Lib.hid hb1
                     clear hb1)
        go_ret
        exact ⟨ret_i (HF.out q1.out), HB1.out⟩
    · rw [sumR_no hd] at HS
      have HF := Lib.hid (show tagE 18 s = 18 from tag_no fun q => hd q.1)
      clear hd
      go_enter Tryd.func40, Tryd.ntmps40
      go_wp2_with (go_at_call 67
                   with_reducible refine HS.out.mono ?_
                   rintro e w1 ⟨rfl, hb1⟩
                   have HB1 := Lib.hid hb1
                   clear hb1)
      go_ret
      exact ⟨ret_i HF.out, HB1.out⟩
  · have hz' : ((s.size : Int) != 12) = true := by simp; omega
    have HF := Lib.hid (show tagE 18 s = 18 from tag_no fun q => h12 q.2.1)
    clear h12
    go_enter Tryd.func40, Tryd.ntmps40
    go_wp2
    go_ret
    exact ⟨ret_i HF.out, Below.refl _ _⟩
set_option maxRecDepth 100000 in
set_option maxHeartbeats 1000000 in
theorem FormatR_any (n : Int) (hn : i64ok n) (w : World) : Calls Tryd.prog 44 #[.int .i64 n] w fun e w' => e = .returned (.string (fmtS n)) ∧ w = w' := by
  unfold i64ok at hn
  by_cases h0 : n = 0
  · subst h0
    go_enter Tryd.func44, Tryd.ntmps44
    go_wp2
    go_ret
    exact ⟨ret_sv fmt_zero, rfl⟩
  have hz : (n == 0) = false := by rw [beq_eq_false_iff_ne]; exact h0
  go_enter Tryd.func44, Tryd.ntmps44
  go_wp2
  go_loopg [3, 4] n.natAbs (fun g sv mv wr => ∃ (m : Int) (t : List UInt8), g = m.natAbs ∧ mv = .int .i64 m ∧ sv = .string (ofB t) ∧ Hid (digsTo n.natAbs [] = digsTo m.natAbs t) ∧ -9223372036854775808 ≤ m ∧ m ≤ 9223372036854775807 ∧ (ofB t).size ≤ 20 ∧ Hid (t.length ≤ 20 ∧ m.natAbs * 10 ^ t.length ≤ n.natAbs) ∧ w = wr)
  case atStart => exact ⟨n, [], rfl, rfl, rfl, Lib.hid rfl, hn.1, hn.2, Nat.zero_le _, Lib.hid ⟨Nat.zero_le _, by simp⟩, rfl⟩
  case round =>
    obtain ⟨m, t, rfl, rfl, rfl, HD, m1, m2, ht, HM, rfl⟩ := hrel
    by_cases hm0 : m = 0
    · have hm : (m != 0) = false := by simp [hm0]
      have HF := Lib.hid (show digsTo n.natAbs [] = digsTo 0 t from by rw [HD.out, hm0]; rfl)
      have HN := Lib.hid h0
      clear hm0 h0
      by_cases hneg : n < 0
      · have HY := Lib.hid (fmt_neg hneg HF.out)
        go_wp2
        go_ret
        exact ⟨ret_sv HY.out, rfl⟩
      · have HY := Lib.hid (fmt_pos HN.out hneg HF.out)
        go_wp2
        go_ret
        exact ⟨ret_sv HY.out, rfl⟩
    · have hm : (m != 0) = true := by simp [hm0]
      obtain ⟨r, hr⟩ : ∃ r : Nat, r = m.natAbs % 10 := ⟨_, rfl⟩
      obtain ⟨q, hq⟩ : ∃ q, Int.tdiv m 10 = q := ⟨_, rfl⟩
      have hqa : q.natAbs = m.natAbs / 10 := by rw [← hq]; rcases tdiv_ways m with ⟨a1, a2, -⟩ | ⟨a1, a2, -⟩ <;> omega
      have hr9 : (r : Int) + 1 ≤ 10 := by omega
      have hr0 : (0 : Int) ≤ (r : Int) := by omega
      have HN := Lib.hid (show digsTo n.natAbs [] = digsTo q.natAbs (UInt8.ofNat (48 + r) :: t) from by rw [HD.out, digs_next (by omega), hqa, hr])
      have hpow := HM.out
      have ht19 : t.length ≤ 19 := Classical.byContradiction fun h => by
        have h2 : 10 ^ 20 ≤ 10 ^ t.length := Nat.pow_le_pow_right (by decide) (by omega)
        have h3 : 1 * 10 ^ t.length ≤ m.natAbs * 10 ^ t.length := Nat.mul_le_mul_right _ (by omega)
        omega
      have HMN := Lib.hid (show (UInt8.ofNat (48 + r) :: t).length ≤ 20 ∧ q.natAbs * 10 ^ (UInt8.ofNat (48 + r) :: t).length ≤ n.natAbs from by
        refine ⟨by simp; omega, ?_⟩
        rw [List.length_cons, Nat.pow_succ, Nat.mul_comm (10 ^ t.length), ← Nat.mul_assoc, hqa]
        exact Nat.le_trans (Nat.mul_le_mul_right _ (by omega)) hpow.2)
      have HS := Lib.hid (show (ofB (UInt8.ofNat (48 + r) :: t)).size ≤ 20 from HMN.out.1)
      have q1 : -9223372036854775808 ≤ q := by omega
      have q2 : q ≤ 9223372036854775807 := by omega
      have HMS := Lib.hid (show q.natAbs < m.natAbs by omega)
      have hds := digit_slice hr9 w
      have h1s : (ofB [UInt8.ofNat (48 + r)]).size = 1 := rfl
      have HAP := Lib.hid (ofB_app [UInt8.ofNat (48 + r)] t)
      generalize ofB [UInt8.ofNat (48 + r)] = c1 at hds h1s HAP
      clear hpow ht19
      obtain ⟨x, hx⟩ : ∃ x, Int.tmod m 10 = x := ⟨_, rfl⟩
      have hxx : (x = (r : Int)) ∨ (x < 0 ∧ -x = (r : Int)) := by rw [← hx]; rcases tdiv_ways m with ⟨a1, -, a2⟩ | ⟨a1, -, a2⟩ <;> omega
      by_cases hx0 : x < 0
      · have hxr : -x = (r : Int) := by omega
        clear hxx
        clear hr hqa
        go_wp2
        go_roundg q.natAbs
        case measure => exact HMS.out
        case rel => exact ⟨q, UInt8.ofNat (48 + r) :: t, rfl, rfl, congrArg Value.string HAP.out, HN, q1, q2, HS.out, HMN, rfl⟩
      · obtain rfl : x = (r : Int) := by omega
        clear hxx
        clear hr hqa
        go_wp2
        go_roundg q.natAbs
        case measure => exact HMS.out
        case rel => exact ⟨q, UInt8.ofNat (48 + r) :: t, rfl, rfl, congrArg Value.string HAP.out, HN, q1, q2, HS.out, HMN, rfl⟩
end Go.Proofs.YtbjhemglecllmaaDoor
/-
  Layer 17 (passage): networks without links: graph.Check, Find.
-/
namespace Go.Tw.Ps
open Go.RowKit Go.Tw Go.Sort Go.Tw.Ord
structure Pnt where
  nm : ByteArray
  kd : Int
  sy : ByteArray
instance : Inhabited Pnt := ⟨⟨ByteArray.empty, 0, ByteArray.empty⟩⟩
def tPnt : Ty Pnt := (tStr.pair (tInt.pair tStr)).via fun r => (r.nm, r.kd, r.sy)
theorem pnt_row {S : Nat → Prop} {w : World} {v : Value} {l : List Pnt} (h : SlIs tPnt S w v l) :
    ∃ ao cap b off, v = .slice ao l.length cap ∧ l.length ≤ cap ∧ cap ≤ maxLen ∧ ∀ w', SameOn S w w' → ∀ k (_ : k < l.length), ao = some ⟨b, off, none⟩ ∧ S b ∧ b < w.heap.size ∧ i64ok l[k].kd ∧
      w'.cell? ⟨b, off + k * 3, none⟩ = some (.string l[k].nm) ∧ w'.cell? ⟨b, off + k * 3 + 1, none⟩ = some (.int .i64 l[k].kd) ∧ w'.cell? ⟨b, off + k * 3 + 2, none⟩ = some (.string l[k].sy) := by
  obtain ⟨ao, cap, b, off, hv, h1, h2, h3⟩ := h.openS
  refine ⟨ao, cap, b, off, hv, h1, h2, fun w' hw k hk => ?_⟩
  obtain ⟨g1, g2, g2', cs, g3, g4⟩ := h3 w' hw k hk
  obtain ⟨_, _, rfl, ⟨rfl, h1⟩, _, _, rfl, ⟨rfl, h2⟩, ⟨rfl, h3⟩⟩ := g4
  exact ⟨g1, g2, g2', h2, g3 0 (by decide), g3 1 (by decide), g3 2 (by decide)⟩
/-- the error of a point, behind others -/
noncomputable def ptE (seen : List ByteArray) (p : Pnt) : Int :=
  if nameC p.nm = false then 6 else if hasS seen p.nm = true then 9 else if p.kd < 1 ∨ 4 < p.kd then 1 else if p.sy ≠ es ∧ nameC p.sy = false then 6 else 0
noncomputable def ptsE : List ByteArray → List Pnt → Int
  | _, [] => 0
  | seen, p :: l => if ptE seen p ≠ 0 then ptE seen p else ptsE (seen ++ [p.nm]) l
/-- the error of a network without links -/
noncomputable def netE (l : List Pnt) : Int := if 64 < l.length then 3 else ptsE [] l
theorem pts_err {s : List ByteArray} {l : List Pnt} {k : Nat} (h : k < l.length) {c : Int} (hc : ptE s l[k] = c) (hn : c ≠ 0) : ptsE s (l.drop k) = c := by
  rw [List.drop_eq_getElem_cons h, ptsE, hc, if_pos hn]
theorem pts_next {l : List Pnt} {k : Nat} (h : k < l.length) (hc : ptE ((l.take k).map Pnt.nm) l[k] = 0) : ptsE ((l.take k).map Pnt.nm) (l.drop k) = ptsE ((l.take (k + 1)).map Pnt.nm) (l.drop (k + 1)) := by
  rw [List.drop_eq_getElem_cons h, ptsE, hc, if_neg (by simp), List.take_succ_eq_append_getElem h, List.map_append]
  rfl
theorem pts_end {s : List ByteArray} {l : List Pnt} {k : Nat} (h : l.length ≤ k) : ptsE s (l.drop k) = 0 := by rw [List.drop_eq_nil_of_le h, ptsE]
/-- the first point with a name -/
def fndC (l : List Pnt) (s : ByteArray) : Option Pnt := l.find? fun p => decide (p.nm = s)
theorem fnd_next {l : List Pnt} {s : ByteArray} {k : Nat} (h : k < l.length) : fndC (l.drop k) s = if l[k].nm = s then some l[k] else fndC (l.drop (k + 1)) s := by
  unfold fndC
  rw [List.drop_eq_getElem_cons h]
  by_cases q : l[k].nm = s
  · rw [if_pos q, List.find?_cons_of_pos (by simpa using q)]
  · rw [if_neg q, List.find?_cons_of_neg (by simpa using q)]
theorem fnd_end {l : List Pnt} {s : ByteArray} {k : Nat} (h : l.length ≤ k) : fndC (l.drop k) s = none := by
  unfold fndC
  rw [List.drop_eq_nil_of_le h]
  rfl
end Go.Tw.Ps
namespace Go.Proofs.YtbjhemglecllmaaDoor
open Go.RowKit Go.Tw Go.Tw.Ord Go.Tw.Ps Go.Sort
theorem name_hid (s : ByteArray) : Hid (∀ w, Calls Tryd.prog 36 #[.string s] w fun e w' => e = .returned (.bool (nameC s)) ∧ Below w.heap.size w w') := Lib.hid (fun w => Name_any s w)
theorem below_alloc_fix {w w' : World} {o : Obj} (h : RowKit.Below (w.heap.size + 1) (w.alloc o) w') : RowKit.Below (w.alloc o).heap.size (w.alloc o) w' := by
  rw [World.size_alloc]
  exact h
set_option maxRecDepth 100000 in
set_option maxHeartbeats 2000000 in
theorem graphCheck_any (l : List Pnt) (vl : Value) (w : World) (h : SlIs tPnt (· < w.heap.size) w vl l) (hl : l.length ≤ 1000) :
    Calls Tryd.prog 59 #[.agg #[vl, .slice none 0 0]] w fun e w' => e = .returned (.int .i64 (netE l)) ∧ Below w.heap.size w w' := by
  obtain ⟨ao, cp, b, o, rfl, q1, q2, ho⟩ := pnt_row h
  unfold maxLen at q2
  have HO := Lib.hid ho
  clear ho h
  by_cases hm : 64 < l.length
  · have hm' : (64 : Int) < (l.length : Int) := by omega
    have HE := Lib.hid (show netE l = 3 from by unfold netE; rw [if_pos hm])
    clear hm
    go_enter Tryd.func59, Tryd.ntmps59
    go_wp2
    go_ret
    exact ⟨ret_i HE.out, bl_alloc (Below.refl _ _) _⟩
  have hm' : ¬ (64 : Int) < (l.length : Int) := by omega
  have HNE := Lib.hid (show netE l = ptsE [] l from by unfold netE; rw [if_neg hm])
  clear hm
  have hmm := @run_makeMap Tryd.prog
  go_enter Tryd.func59, Tryd.ntmps59
  go_upto_region 1 with (fail)
  have n0 := heap_alloc_new w (.cells #[.slice ao l.length cp, .slice none 0 0] 32)
  have HB0 := Lib.hid (bl_alloc (Below.refl w.heap.size w) (.cells #[.slice ao l.length cp, .slice none 0 0] 32))
  generalize w.alloc (.cells #[.slice ao l.length cp, .slice none 0 0] 32) = w0 at n0 HB0 ⊢
  generalize hgb : w.heap.size = gb at n0 HB0 ⊢
  have hgl := lt_of_heap n0
  have HN0 := Lib.hid n0
  obtain ⟨c0, c1, -⟩ := blk2 n0
  have HM0 := Lib.hid (MapIs.made (K := kStr) w0)
  have HBM := Lib.hid (bl_alloc (Below.refl w0.heap.size w0) (.map #[] 0))
  go_upto_region 4 with (fail)
  clear hmm
  generalize hmb : w0.heap.size = mb at HM0 HBM ⊢
  have hgm : gb < mb := by omega
  have d0 := (Below.heap_alloc w0 (.map #[] 0) gb hgl).trans n0
  obtain ⟨d0, d1, -⟩ := blk2 d0
  clear n0 c0 c1
  go_wp2
  go_loopg [24] l.length (fun gx i wr => ∃ k : Nat, k + gx = l.length ∧ i = .int .i64 k ∧ Hid (ptsE [] l = ptsE ((l.take k).map Pnt.nm) (l.drop k)) ∧ MapIs kStr wr mb (seenM ((l.take k).map Pnt.nm)) k ∧ Below mb w0 wr)
  case atStart => exact ⟨0, by omega, rfl, Lib.hid rfl, HM0.out.ext (fun p => rfl), HBM.out⟩
  case round =>
    obtain ⟨wo, rfl⟩ : ∃ wo : World, wo = wr := ⟨_, rfl⟩
    obtain ⟨k, hk, rfl, HT, hms, hb⟩ := hrel
    have HB := Lib.hid hb
    have hbw : Below gb w wo := HB0.out.trans (hb.mono (Nat.le_of_lt hgm))
    by_cases hlt : k < l.length
    · obtain ⟨rfl, -, hbk, hok, p0, p1, p2⟩ := HO.out wo (by rw [hgb]; exact .of_below hbw) k hlt
      have HERR := Lib.hid (show ∀ c : Int, ptE ((l.take k).map Pnt.nm) l[k] = c → c ≠ 0 → netE l = c from fun c h1 h2 => HNE.out.trans (HT.out.trans (pts_err hlt h1 h2)))
      have HNXT := Lib.hid (fun (h1 : ptE ((l.take k).map Pnt.nm) l[k] = 0) => HT.out.trans (pts_next hlt h1))
      have HTK := Lib.hid (show (l.take (k + 1)).map Pnt.nm = (l.take k).map Pnt.nm ++ [l[k].nm] from by rw [List.take_succ_eq_append_getElem hlt, List.map_append]; rfl)
      generalize l[k] = p at HERR HNXT HTK p0 p1 p2 hok
      have n1 := heap_alloc_new wo (.cells #[.string p.nm, .int .i64 p.kd, .string p.sy] 29)
      have hlb : wo.heap.size < (wo.alloc (.cells #[.string p.nm, .int .i64 p.kd, .string p.sy] 29)).heap.size := by simp
      have HBA := Lib.hid (show Below mb w0 (wo.alloc (.cells #[.string p.nm, .int .i64 p.kd, .string p.sy] 29)) from hb.trans ((bl_alloc (Below.refl _ _) _).mono (Nat.le_of_lt hms.lt)))
      have HSZ := Lib.hid (show mb ≤ (wo.alloc (.cells #[.string p.nm, .int .i64 p.kd, .string p.sy] 29)).heap.size from by rw [World.size_alloc]; exact Nat.le_succ_of_le (Nat.le_of_lt hms.lt))
      have HMA := Lib.hid (hms.alloc (.cells #[.string p.nm, .int .i64 p.kd, .string p.sy] 29))
      have HPUT := Lib.hid (show ∀ q, (if q = p.nm then some (Value.bool true) else seenM ((l.take k).map Pnt.nm) q) = seenM ((l.take (k + 1)).map Pnt.nm) q from fun q => by rw [HTK.out]; exact seenM_put _ _ q)
      have hpt : ptE ((l.take k).map Pnt.nm) p = if nameC p.nm = false then 6 else if hasS ((l.take k).map Pnt.nm) p.nm = true then 9 else if p.kd < 1 ∨ 4 < p.kd then 1 else if p.sy ≠ es ∧ nameC p.sy = false then 6 else 0 := rfl
      have HN1 := name_hid p.nm
      have HN2 := name_hid p.sy
      obtain ⟨nb1, hn1⟩ : ∃ c, nameC p.nm = c := ⟨_, rfl⟩
      obtain ⟨nb2, hn2⟩ : ∃ c, nameC p.sy = c := ⟨_, rfl⟩
      obtain ⟨se, hse⟩ : ∃ c, hasS ((l.take k).map Pnt.nm) p.nm = c := ⟨_, rfl⟩
      rw [hn1] at HN1
      rw [hn2] at HN2
      rw [hn1, hse, hn2] at hpt
      obtain ⟨b0, b1, b2, bf⟩ := blk3 n1
      have k0 : (0 : Int) ≤ (k : Int) := by omega
      have k1 : (k : Int) < (l.length : Int) := by omega
      clear hb hbk hms hn1 hn2 hbw
      cases nb1 with
      | false =>
        have HE := Lib.hid (HERR.out 6 (hpt.trans (if_pos rfl)) (by decide))
        clear hpt
        go_wp2_with (go_at_call 36
                     with_reducible refine (HN1.out _).mono ?_
                     rintro e w1 ⟨rfl, hb1⟩
                     have m1 := hb1.block _ hlb |>.trans n1
                     have HBW := Lib.hid (HBA.out.trans (hb1.mono HSZ.out))
                     have hlk := (HMA.out.below hb1).look Tryd.underlying74 Tryd.underlying9 (z := .bool false) (by kernel_rfl) p.nm false
                     rw [seenM_get, hse] at hlk
                     have hlk : (Instr.lookup 74 (.map (some mb)) (.string p.nm) false).run Tryd.prog w1 = .ok (.bool se) w1 := hlk
                     have HM1 := Lib.hid (HMA.out.below hb1)
                     obtain ⟨y0, y1, y2, yf⟩ := blk3 m1
                     have M1 := Lib.hid m1
                     have hl1 := lt_of_heap m1
                     clear hb1 m1)
        go_ret
        exact ⟨ret_i HE.out, by rw [hgb]; exact HB0.out.trans (HBW.out.mono (Nat.le_of_lt hgm))⟩
      | true =>
        cases se with
        | true =>
          have HE := Lib.hid (HERR.out 9 (hpt.trans (by rw [if_neg (by decide), if_pos rfl])) (by decide))
          clear hpt
          go_wp2_with (go_at_call 36
                       with_reducible refine (HN1.out _).mono ?_
                       rintro e w1 ⟨rfl, hb1⟩
                       have m1 := hb1.block _ hlb |>.trans n1
                       have HBW := Lib.hid (HBA.out.trans (hb1.mono HSZ.out))
                       have hlk := (HMA.out.below hb1).look Tryd.underlying74 Tryd.underlying9 (z := .bool false) (by kernel_rfl) p.nm false
                       rw [seenM_get, hse] at hlk
                       have hlk : (Instr.lookup 74 (.map (some mb)) (.string p.nm) false).run Tryd.prog w1 = .ok (.bool true) w1 := hlk
                       have HM1 := Lib.hid (HMA.out.below hb1)
                       obtain ⟨y0, y1, y2, yf⟩ := blk3 m1
                       have M1 := Lib.hid m1
                       have hl1 := lt_of_heap m1
                       clear hb1 m1)
          go_ret
          exact ⟨ret_i HE.out, by rw [hgb]; exact HB0.out.trans (HBW.out.mono (Nat.le_of_lt hgm))⟩
        | false =>
          have hk3 : p.kd < 1 ∨ (1 ≤ p.kd ∧ 4 < p.kd) ∨ (1 ≤ p.kd ∧ p.kd ≤ 4) := by omega
          rcases hk3 with t1 | ⟨t1, t2⟩ | ⟨t1, t2⟩
          · have HE := Lib.hid (HERR.out 1 (hpt.trans (by rw [if_neg (by decide), if_neg (by decide), if_pos (.inl t1)])) (by decide))
            clear hpt
            go_wp2_with (go_at_call 36
                         with_reducible refine (HN1.out _).mono ?_
                         rintro e w1 ⟨rfl, hb1⟩
                         have m1 := hb1.block _ hlb |>.trans n1
                         have HBW := Lib.hid (HBA.out.trans (hb1.mono HSZ.out))
                         have hlk := (HMA.out.below hb1).look Tryd.underlying74 Tryd.underlying9 (z := .bool false) (by kernel_rfl) p.nm false
                         rw [seenM_get, hse] at hlk
                         have hlk : (Instr.lookup 74 (.map (some mb)) (.string p.nm) false).run Tryd.prog w1 = .ok (.bool false) w1 := hlk
                         have HM1 := Lib.hid (HMA.out.below hb1)
                         obtain ⟨y0, y1, y2, yf⟩ := blk3 m1
                         have M1 := Lib.hid m1
                         have hl1 := lt_of_heap m1
                         clear hb1 m1)
            go_ret
            exact ⟨ret_i HE.out, by rw [hgb]; exact HB0.out.trans (HBW.out.mono (Nat.le_of_lt hgm))⟩
          · have HE := Lib.hid (HERR.out 1 (hpt.trans (by rw [if_neg (by decide), if_neg (by decide), if_pos (.inr t2)])) (by decide))
            clear hpt
            go_wp2_with (go_at_call 36
                         with_reducible refine (HN1.out _).mono ?_
                         rintro e w1 ⟨rfl, hb1⟩
                         have m1 := hb1.block _ hlb |>.trans n1
                         have HBW := Lib.hid (HBA.out.trans (hb1.mono HSZ.out))
                         have hlk := (HMA.out.below hb1).look Tryd.underlying74 Tryd.underlying9 (z := .bool false) (by kernel_rfl) p.nm false
                         rw [seenM_get, hse] at hlk
                         have hlk : (Instr.lookup 74 (.map (some mb)) (.string p.nm) false).run Tryd.prog w1 = .ok (.bool false) w1 := hlk
                         have HM1 := Lib.hid (HMA.out.below hb1)
                         obtain ⟨y0, y1, y2, yf⟩ := blk3 m1
                         have M1 := Lib.hid m1
                         have hl1 := lt_of_heap m1
                         clear hb1 m1)
            go_ret
            exact ⟨ret_i HE.out, by rw [hgb]; exact HB0.out.trans (HBW.out.mono (Nat.le_of_lt hgm))⟩
          · rw [if_neg (by decide), if_neg (by decide), if_neg (by omega)] at hpt
            by_cases hsy : p.sy = es
            · have e1 : p.sy.toList.isEmpty = true := by rw [emp_iff]; simpa using hsy
              have HE := Lib.hid (HNXT.out (hpt.trans (if_neg (fun q => q.1 hsy))))
              clear hpt hsy
              go_wp2_with (first
                | (go_at_call 36
                   with_reducible refine (HN1.out _).mono ?_
                   rintro e w1 ⟨rfl, hb1⟩
                   have m1 := hb1.block _ hlb |>.trans n1
                   have HBW := Lib.hid (HBA.out.trans (hb1.mono HSZ.out))
                   have hlk := (HMA.out.below hb1).look Tryd.underlying74 Tryd.underlying9 (z := .bool false) (by kernel_rfl) p.nm false
                   rw [seenM_get, hse] at hlk
                   have hlk : (Instr.lookup 74 (.map (some mb)) (.string p.nm) false).run Tryd.prog w1 = .ok (.bool false) w1 := hlk
                   have HM1 := Lib.hid (HMA.out.below hb1)
                   obtain ⟨y0, y1, y2, yf⟩ := blk3 m1
                   have M1 := Lib.hid m1
                   have hl1 := lt_of_heap m1
                   clear hb1 m1)
                | (at_mapUpdate
                   refine wpList_put (.tmp 57) (.tmp 59) (.const (.bool true)) rfl 74 rfl Tryd.underlying74 Tryd.underlying9 HM1.out rfl p.nm (.string p.nm) (.bool true) rfl rfl rfl ?_
                   intro w3 hm3 hg3
                   have HM3 := Lib.hid (hm3.ext (HPUT.out))
                   have HB3 := Lib.hid (HBW.out.grown hg3 (Nat.le_of_lt HM1.out.lt) (fun k hk => by cases hk; exact Nat.le_refl _))
                   clear hm3 hg3))
              go_roundg (l.length - (k + 1))
              case measure => omega
              case rel => exact ⟨k + 1, by omega, by go_num, HE, HM3.out, HB3.out⟩
            · have e1 : p.sy.toList.isEmpty = false := by rw [emp_iff]; simpa using hsy
              cases nb2 with
              | false =>
                have HE := Lib.hid (HERR.out 6 (hpt.trans (if_pos ⟨hsy, rfl⟩)) (by decide))
                clear hpt hsy
                go_wp2_with (first
                  | (go_at_call 36
                     with_reducible refine (HN1.out _).mono ?_
                     rintro e w1 ⟨rfl, hb1⟩
                     have m1 := hb1.block _ hlb |>.trans n1
                     have HBW := Lib.hid (HBA.out.trans (hb1.mono HSZ.out))
                     have hlk := (HMA.out.below hb1).look Tryd.underlying74 Tryd.underlying9 (z := .bool false) (by kernel_rfl) p.nm false
                     rw [seenM_get, hse] at hlk
                     have hlk : (Instr.lookup 74 (.map (some mb)) (.string p.nm) false).run Tryd.prog w1 = .ok (.bool false) w1 := hlk
                     have HM1 := Lib.hid (HMA.out.below hb1)
                     obtain ⟨y0, y1, y2, yf⟩ := blk3 m1
                     have M1 := Lib.hid m1
                     have hl1 := lt_of_heap m1
                     clear hb1 m1)
                  | (go_at_call 36
                     with_reducible refine (HN2.out _).mono ?_
                     rintro e w2 ⟨rfl, hb2⟩
                     have m2 := (hb2.block _ hl1).trans M1.out
                     have HBX := Lib.hid (HBW.out.trans (hb2.mono (Nat.le_of_lt HM1.out.lt)))
                     have HM2 := Lib.hid (HM1.out.below hb2)
                     clear y0 y1 y2 yf hlk hl1
                     obtain ⟨z0, z1, z2, zf⟩ := blk3 m2
                     clear hb2 m2))
                go_ret
                exact ⟨ret_i HE.out, by rw [hgb]; exact HB0.out.trans (HBX.out.mono (Nat.le_of_lt hgm))⟩
              | true =>
                have HE := Lib.hid (HNXT.out (hpt.trans (if_neg (fun q => by cases q.2))))
                clear hpt hsy
                go_wp2_with (first
                  | (go_at_call 36
                     with_reducible refine (HN1.out _).mono ?_
                     rintro e w1 ⟨rfl, hb1⟩
                     have m1 := hb1.block _ hlb |>.trans n1
                     have HBW := Lib.hid (HBA.out.trans (hb1.mono HSZ.out))
                     have hlk := (HMA.out.below hb1).look Tryd.underlying74 Tryd.underlying9 (z := .bool false) (by kernel_rfl) p.nm false
                     rw [seenM_get, hse] at hlk
                     have hlk : (Instr.lookup 74 (.map (some mb)) (.string p.nm) false).run Tryd.prog w1 = .ok (.bool false) w1 := hlk
                     have HM1 := Lib.hid (HMA.out.below hb1)
                     obtain ⟨y0, y1, y2, yf⟩ := blk3 m1
                     have M1 := Lib.hid m1
                     have hl1 := lt_of_heap m1
                     clear hb1 m1)
                  | (go_at_call 36
                     with_reducible refine (HN2.out _).mono ?_
                     rintro e w2 ⟨rfl, hb2⟩
                     have m2 := (hb2.block _ hl1).trans M1.out
                     have HBX := Lib.hid (HBW.out.trans (hb2.mono (Nat.le_of_lt HM1.out.lt)))
                     have HM2 := Lib.hid (HM1.out.below hb2)
                     clear y0 y1 y2 yf hlk hl1
                     obtain ⟨z0, z1, z2, zf⟩ := blk3 m2
                     clear hb2 m2)
                  | (at_mapUpdate
                     refine wpList_put (.tmp 57) (.tmp 59) (.const (.bool true)) rfl 74 rfl Tryd.underlying74 Tryd.underlying9 HM2.out rfl p.nm (.string p.nm) (.bool true) rfl rfl rfl ?_
                     intro w3 hm3 hg3
                     have HM3 := Lib.hid (hm3.ext (HPUT.out))
                     have HB3 := Lib.hid (HBX.out.grown hg3 (Nat.le_of_lt HM2.out.lt) (fun k hk => by cases hk; exact Nat.le_refl _))
                     clear hm3 hg3))
                go_roundg (l.length - (k + 1))
                case measure => omega
                case rel => exact ⟨k + 1, by omega, by go_num, HE, HM3.out, HB3.out⟩
    · have hkl : ¬ (k : Int) < (l.length : Int) := by omega
      have HE := Lib.hid (show netE l = 0 from HNE.out.trans (HT.out.trans (pts_end (by omega))))
      have d2 := (hb.block gb hgm).trans HN0.out
      obtain ⟨f0, f1, -⟩ := blk2 d2
      have HBW := Lib.hid hbw
      have hmm := @run_makeMap Tryd.prog
      have hgw := lt_of_heap d2
      have g1 := fun (o : Obj) => (Below.heap_alloc wo o gb hgw).trans d2
      have g2 := (blk2 (g1 (.map #[] 0))).2.1
      clear hb hms d2 g1 hbw
      go_wp2
      go_loopg [65] 0 (fun gx i wr => gx = 0 ∧ i = .int .i64 0 ∧ wo.alloc (.map #[] 0) = wr)
      case atStart => exact ⟨rfl, rfl, rfl⟩
      case round =>
        obtain ⟨-, rfl, rfl⟩ := hrel
        go_wp2
        go_ret
        exact ⟨ret_i HE.out, by rw [hgb]; exact HBW.out.trans ((bl_alloc (Below.refl _ _) _).mono (Nat.le_of_lt hgw))⟩
end Go.Proofs.YtbjhemglecllmaaDoor
/-
  Layer 17 (passage): networks without links: graph.Find.
-/
namespace Go.Tw.Ps
open Go.RowKit Go.Tw Go.Sort Go.Tw.Ord
open Classical in
/-- is there a point with this name in a valid network? -/
noncomputable def fndB (l : List Pnt) (s : ByteArray) : Bool := if netE l = 0 then (fndC l s).isSome else false
theorem fnd_bad {l : List Pnt} {s : ByteArray} (h : netE l ≠ 0) : fndB l s = false := by unfold fndB; rw [if_neg h]
theorem fnd_good {l : List Pnt} {s : ByteArray} (h : netE l = 0) : fndB l s = (fndC l s).isSome := by unfold fndB; rw [if_pos h]
end Go.Tw.Ps
namespace Go.Proofs.YtbjhemglecllmaaDoor
open Go.RowKit Go.Tw Go.Tw.Ord Go.Tw.Ps Go.Sort
set_option maxRecDepth 100000 in
set_option maxHeartbeats 2000000 in
theorem graphFind_any (l : List Pnt) (vl : Value) (s : ByteArray) (w : World) (h : SlIs tPnt (· < w.heap.size) w vl l) (hl : l.length ≤ 1000) :
    Calls Tryd.prog 34 #[.agg #[vl, .slice none 0 0], .string s] w fun e w' => (∃ a b c, e = .returned (.tuple #[.agg #[.string a, .int .i64 b, .string c], .bool (fndB l s)])) ∧ Below w.heap.size w w' := by
  have H := Lib.hid h
  obtain ⟨ao, cp, b, o, rfl, q1, q2, ho⟩ := pnt_row h
  unfold maxLen at q2
  have HO := Lib.hid ho
  clear ho h
  have n0 := alloc2_0 w (.cells #[.slice ao l.length cp, .slice none 0 0] 32) (.cells #[.string ByteArray.empty, .int .i64 0, .string ByteArray.empty] 29)
  have n1 := alloc2_1 w (.cells #[.slice ao l.length cp, .slice none 0 0] 32) (.cells #[.string ByteArray.empty, .int .i64 0, .string ByteArray.empty] 29)
  have HB0 := Lib.hid (bl_alloc (bl_alloc (Below.refl w.heap.size w) (.cells #[.slice ao l.length cp, .slice none 0 0] 32)) (.cells #[.string ByteArray.empty, .int .i64 0, .string ByteArray.empty] 29))
  have hzz : (⟨#[]⟩ : ByteArray) = ByteArray.empty := rfl
  go_enter Tryd.func34, Tryd.ntmps34
  go_upto_region 1 with (fail)
  (try simp only [hzz])
  obtain ⟨w0, hw0⟩ : ∃ w0, (w.alloc (.cells #[.slice ao l.length cp, .slice none 0 0] 32)).alloc (.cells #[.string ByteArray.empty, .int .i64 0, .string ByteArray.empty] 29) = w0 := ⟨_, rfl⟩
  rw [hw0] at n0 n1 HB0 ⊢
  clear hw0
  have HCK := Lib.hid (graphCheck_any l _ w0 (H.out.step HB0.out) hl)
  obtain ⟨c, hc⟩ : ∃ c, netE l = c := ⟨_, rfl⟩
  rw [hc] at HCK
  have HC := Lib.hid hc
  have hl0 := lt_of_heap n0
  have hl1 := lt_of_heap n1
  have N0 := Lib.hid n0
  have N1 := Lib.hid n1
  obtain ⟨a0, a1, -⟩ := blk2 n0
  clear n0 n1 hc
  by_cases hc0 : c = 0
  · have hc' : (c != 0) = false := by simp [hc0]
    have HF := Lib.hid (fnd_good (s := s) (HC.out.trans hc0))
    clear hc0
    go_wp2_with (go_at_call 59
                 with_reducible refine HCK.out.mono ?_
                 rintro e w1 ⟨rfl, hb1⟩
                 have m0 := (hb1.block _ hl0).trans N0.out
                 obtain ⟨a0, a1, -⟩ := blk2 m0
                 have HB1 := Lib.hid hb1
                 clear hb1 m0)
    go_loopg [15] l.length (fun gx i wr => ∃ k : Nat, k + gx = l.length ∧ i = .int .i64 k ∧ Hid (fndC l s = fndC (l.drop k) s) ∧ Below w0.heap.size w0 wr)
    case atStart => exact ⟨0, by omega, rfl, Lib.hid rfl, HB1.out⟩
    case round =>
      obtain ⟨wo, rfl⟩ : ∃ wo : World, wo = wr := ⟨_, rfl⟩
      obtain ⟨k, hk, rfl, HT, hb⟩ := hrel
      have hbw : Below w.heap.size w wo := bl_trans HB0.out hb
      have m1 := (hb.block _ hl1).trans N1.out
      by_cases hlt : k < l.length
      · obtain ⟨rfl, -, hbk, hok, p0, p1, p2⟩ := HO.out wo (.of_below hbw) k hlt
        have HNX := Lib.hid (fnd_next (s := s) hlt)
        generalize l[k] = p at HNX p0 p1 p2 hok
        have n2 := heap_alloc_new wo (.cells #[.string p.nm, .int .i64 p.kd, .string p.sy] 29)
        have m2 := (Below.heap_alloc wo (.cells #[.string p.nm, .int .i64 p.kd, .string p.sy] 29) _ (lt_of_heap m1)).trans m1
        have hne : w.heap.size + 1 < wo.heap.size := lt_of_heap m1
        obtain ⟨b0, b1, b2, bf⟩ := blk3 n2
        obtain ⟨d0, d1, d2, df⟩ := blk3 m2
        have k0 : (0 : Int) ≤ (k : Int) := by omega
        have k1 : (k : Int) < (l.length : Int) := by omega
        have HBA := Lib.hid (bl_alloc hb (.cells #[.string p.nm, .int .i64 p.kd, .string p.sy] 29))
        have HBW := Lib.hid (bl_alloc hbw (.cells #[.string p.nm, .int .i64 p.kd, .string p.sy] 29))
        clear hb hbw hbk m1 m2 n2
        by_cases hq : p.nm = s
        · have e1 : (p.nm.toList == s.toList) = true := by rw [eq_str]; simpa using hq
          have HE := Lib.hid (show fndB l s = true from by rw [HF.out, HT.out, HNX.out, if_pos hq]; rfl)
          clear hq
          go_upto_region 7 with (fail)
          generalize wo.alloc (.cells #[.string p.nm, .int .i64 p.kd, .string p.sy] 29) = wa at d0 d1 d2 df b0 b1 b2 HBW ⊢
          go_wp2
          refine bodyPost_ret (v := .tuple #[.agg #[.string p.nm, .int .i64 p.kd, .string p.sy], .bool true]) (by simp [results, Tryd.results34, go_sem, d0, d1, d2]) rfl ⟨⟨_, _, _, by rw [HE.out]⟩, ?_⟩
          (repeat (first | (with_reducible exact HBW.out) | (with_reducible apply bl_drewN) | (with_reducible apply bl_alloc) | ((with_reducible refine bl_set ?_ _ ?_); rotate_left; focus (first | exact Nat.le_refl _ | (simp; done) | (simp; omega)))))
        · have e1 : (p.nm.toList == s.toList) = false := by rw [eq_str]; simpa using hq
          have HE := Lib.hid (show fndC l s = fndC (l.drop (k + 1)) s from by rw [HT.out, HNX.out, if_neg hq])
          clear hq
          go_wp2
          go_roundg (l.length - (k + 1))
          case measure => omega
          case rel => exact ⟨k + 1, by omega, by go_num, HE, HBA.out⟩
      · have hkl : ¬ (k : Int) < (l.length : Int) := by omega
        have HE := Lib.hid (show fndB l s = false from by rw [HF.out, HT.out, fnd_end (by omega)]; rfl)
        obtain ⟨d0, d1, d2, df⟩ := blk3 m1
        have HBW := Lib.hid hbw
        clear hb hbw m1
        go_wp2
        refine bodyPost_ret (v := .tuple #[.agg #[.string ByteArray.empty, .int .i64 0, .string ByteArray.empty], .bool false]) (by simp [results, Tryd.results34, go_sem, d0, d1, d2]) rfl ⟨⟨_, _, _, by rw [HE.out]⟩, ?_⟩
        (repeat (first | (with_reducible exact HBW.out) | (with_reducible apply bl_drewN) | (with_reducible apply bl_alloc) | ((with_reducible refine bl_set ?_ _ ?_); rotate_left; focus (first | exact Nat.le_refl _ | (simp; done) | (simp; omega)))))
  · have hc' : (c != 0) = true := by simp [hc0]
    have HF := Lib.hid (fnd_bad (s := s) (show netE l ≠ 0 from by rw [HC.out]; exact hc0))
    clear hc0
    go_wp2_with (go_at_call 59
                 with_reducible refine HCK.out.mono ?_
                 rintro e w1 ⟨rfl, hb1⟩
                 have m1 := (hb1.block _ hl1).trans N1.out
                 obtain ⟨d0, d1, d2, df⟩ := blk3 m1
                 have HB1 := Lib.hid (bl_trans HB0.out hb1)
                 clear hb1 m1 a0 a1)
    refine bodyPost_ret (v := .tuple #[.agg #[.string ByteArray.empty, .int .i64 0, .string ByteArray.empty], .bool false]) (by simp [results, Tryd.results34, go_sem, d0, d1, d2]) rfl ⟨⟨_, _, _, by rw [HF.out]⟩, ?_⟩
    (repeat (first | (with_reducible exact HB1.out) | (with_reducible apply bl_drewN) | (with_reducible apply bl_alloc) | ((with_reducible refine bl_set ?_ _ ?_); rotate_left; focus (first | exact Nat.le_refl _ | (simp; done) | (simp; omega)))))
end Go.Proofs.YtbjhemglecllmaaDoor
/-
  Layer 17 (passage): networks without links: the reference's place, Check, Find.
-/
namespace Go.Tw.Ps
open Go.RowKit Go.Tw Go.Sort Go.Tw.Ord
def PlaceIs (l : List Pnt) (n : Nat) (s : ByteArray) (i : Int) : Prop :=
  (i = -1 ∧ hasS ((l.take n).map Pnt.nm) s = false) ∨ (∃ k : Nat, i = k ∧ k < l.length ∧ k < n ∧ hasS ((l.take n).map Pnt.nm) s = true)
theorem place_yes {l : List Pnt} {n k : Nat} {s : ByteArray} (h1 : k < l.length) (h2 : k < n) (h : l[k].nm = s) : PlaceIs l n s k :=
  Or.inr ⟨k, rfl, h1, h2, hasS_iff.2 (List.mem_map.2 ⟨l[k], List.mem_take_iff_getElem.2 ⟨k, by omega, rfl⟩, h⟩)⟩
theorem place_no {l : List Pnt} {n k : Nat} {s : ByteArray} (h : ∀ i (h : i < l.length), i < k → l[i].nm ≠ s) (hk : l.length ≤ k ∨ n ≤ k) : PlaceIs l n s (-1) :=
  Or.inl ⟨rfl, hasS_no.2 fun hm => by
    obtain ⟨p, hp, e⟩ := List.mem_map.1 hm
    obtain ⟨i, hi, rfl⟩ := List.mem_take_iff_getElem.1 hp
    exact h i (by omega) (by omega) e⟩
theorem place_pos {l : List Pnt} {n : Nat} {s : ByteArray} {i : Int} (h : PlaceIs l n s i) (hs : hasS ((l.take n).map Pnt.nm) s = true) : 0 ≤ i := by
  rcases h with ⟨-, q⟩ | ⟨_, q, -⟩
  · rw [hs] at q; cases q
  · omega
theorem place_neg {l : List Pnt} {n : Nat} {s : ByteArray} {i : Int} (h : PlaceIs l n s i) (hs : hasS ((l.take n).map Pnt.nm) s = false) : i < 0 := by
  rcases h with ⟨q, -⟩ | ⟨_, -, -, -, q⟩
  · omega
  · rw [hs] at q; cases q
theorem fnd_has (l : List Pnt) (s : ByteArray) : (fndC l s).isSome = hasS (l.map Pnt.nm) s := by
  unfold fndC
  rw [Bool.eq_iff_iff, List.find?_isSome, hasS_iff, List.mem_map]
  simp
theorem net_len {l : List Pnt} (h : netE l = 0) : l.length ≤ 64 := Classical.byContradiction fun hn => by
  unfold netE at h
  rw [if_pos (by omega)] at h
  cases h
end Go.Tw.Ps
namespace Go.Proofs.YtbjhemglecllmaaDoor
open Go.RowKit Go.Tw Go.Tw.Ord Go.Tw.Ps Go.Sort
def PlaceRes (l : List Pnt) (n : Nat) (s : ByteArray) (e : Ending) : Prop := ∃ i, e = .returned (.int .i64 i) ∧ PlaceIs l n s i
set_option maxRecDepth 100000 in
set_option maxHeartbeats 2000000 in
theorem place_any (l : List Pnt) (vl : Value) (n : Nat) (hn : n ≤ 1000) (s : ByteArray) (w : World) (h : SlIs tPnt (· < w.heap.size) w vl l) :
    Calls Tryd.prog 66 #[vl, .int .i64 n, .string s] w fun e w' => PlaceRes l n s e ∧ w' = w := by
  obtain ⟨ao, cp, b, o, rfl, q1, q2, ho⟩ := pnt_row h
  unfold maxLen at q2
  have HO := Lib.hid ho
  clear ho h
  go_enter Tryd.func66, Tryd.ntmps66
  go_wp2
  go_loopg [7] l.length (fun gx i wr => ∃ k : Nat, k + gx = l.length ∧ i = .int .i64 k ∧ Hid (∀ i (h : i < l.length), i < k → l[i].nm ≠ s) ∧ w = wr)
  case atStart => exact ⟨0, by omega, rfl, Lib.hid (fun i _ h => absurd h (Nat.not_lt_zero _)), rfl⟩
  case round =>
    obtain ⟨k, hk, rfl, HT, rfl⟩ := hrel
    by_cases hkn : k < n
    · have k2 : (k : Int) < (n : Int) := by omega
      by_cases hlt : k < l.length
      · obtain ⟨rfl, -, hbk, hok, p0, p1, p2⟩ := HO.out w (SameOn.refl _ _) k hlt
        have HY := Lib.hid (fun (h : l[k].nm = s) => place_yes hlt hkn h)
        have HNX := Lib.hid (show l[k].nm ≠ s → ∀ i (h : i < l.length), i < k + 1 → l[i].nm ≠ s from fun h i hi hik => by
          by_cases e : i = k
          · subst e; exact h
          · exact HT.out i hi (by omega))
        generalize l[k] = p at HY HNX p0 p1 p2 hok
        have k0 : (0 : Int) ≤ (k : Int) := by omega
        have k1 : (k : Int) < (l.length : Int) := by omega
        clear hbk hkn
        by_cases hq : p.nm = s
        · have e1 : (p.nm.toList == s.toList) = true := by rw [eq_str]; simpa using hq
          have HE := Lib.hid (HY.out hq)
          clear hq
          go_wp2
          go_ret
          exact ⟨⟨k, rfl, HE.out⟩, rfl⟩
        · have e1 : (p.nm.toList == s.toList) = false := by rw [eq_str]; simpa using hq
          have HE := Lib.hid (HNX.out hq)
          clear hq
          go_wp2
          go_roundg (l.length - (k + 1))
          case measure => omega
          case rel => exact ⟨k + 1, by omega, by go_num, HE, rfl⟩
      · have k1 : ¬ (k : Int) < (l.length : Int) := by omega
        have HE := Lib.hid (place_no (n := n) HT.out (.inl (by omega)))
        clear hkn
        go_wp2
        go_ret
        exact ⟨⟨-1, rfl, HE.out⟩, rfl⟩
    · have k2 : ¬ (k : Int) < (n : Int) := by omega
      have HE := Lib.hid (place_no (n := n) HT.out (.inr (by omega)))
      clear hkn
      go_wp2
      go_ret
      exact ⟨⟨-1, rfl, HE.out⟩, rfl⟩
theorem nameR_hid (s : ByteArray) : Hid (∀ w, Calls Tryd.prog 68 #[.string s] w fun e w' => e = .returned (.bool (nameC s)) ∧ Below w.heap.size w w') := Lib.hid (fun w => NameR_any s w)
set_option maxRecDepth 100000 in
set_option maxHeartbeats 2000000 in
theorem graphCheckR_any (l : List Pnt) (vl : Value) (w : World) (h : SlIs tPnt (· < w.heap.size) w vl l) (hl : l.length ≤ 1000) :
    Calls Tryd.prog 81 #[.agg #[vl, .slice none 0 0]] w fun e w' => e = .returned (.int .i64 (netE l)) ∧ Below w.heap.size w w' := by
  have H := Lib.hid h
  obtain ⟨ao, cp, b, o, rfl, q1, q2, ho⟩ := pnt_row h
  unfold maxLen at q2
  have HO := Lib.hid ho
  clear ho h
  by_cases hm : 64 < l.length
  · have hm' : (64 : Int) < (l.length : Int) := by omega
    have HE := Lib.hid (show netE l = 3 from by unfold netE; rw [if_pos hm])
    clear hm
    go_enter Tryd.func81, Tryd.ntmps81
    go_wp2
    go_ret
    exact ⟨ret_i HE.out, bl_alloc (Below.refl _ _) _⟩
  have hm' : ¬ (64 : Int) < (l.length : Int) := by omega
  have HNE := Lib.hid (show netE l = ptsE [] l from by unfold netE; rw [if_neg hm])
  clear hm
  go_enter Tryd.func81, Tryd.ntmps81
  go_upto_region 1 with (fail)
  have n0 := heap_alloc_new w (.cells #[.slice ao l.length cp, .slice none 0 0] 32)
  have HB0 := Lib.hid (bl_alloc (Below.refl w.heap.size w) (.cells #[.slice ao l.length cp, .slice none 0 0] 32))
  have HZ0 := Lib.hid (show w.heap.size ≤ (w.alloc (.cells #[.slice ao l.length cp, .slice none 0 0] 32)).heap.size by simp)
  generalize w.alloc (.cells #[.slice ao l.length cp, .slice none 0 0] 32) = w0 at n0 HB0 HZ0 ⊢
  obtain ⟨gb, hgb⟩ : ∃ gb, w.heap.size = gb := ⟨_, rfl⟩
  rw [hgb] at n0 ⊢
  have hgl0 := lt_of_heap n0
  have HN0 := Lib.hid n0
  obtain ⟨c0, c1, -⟩ := blk2 n0
  clear n0
  go_wp2
  clear c0 c1
  go_loopg [3] l.length (fun gx i wr => ∃ k : Nat, k + gx = l.length ∧ i = .int .i64 k ∧ Hid (ptsE [] l = ptsE ((l.take k).map Pnt.nm) (l.drop k)) ∧ Below w0.heap.size w0 wr)
  case atStart => exact ⟨0, by omega, rfl, Lib.hid rfl, Below.refl _ _⟩
  case round =>
    obtain ⟨wo, rfl⟩ : ∃ wo : World, wo = wr := ⟨_, rfl⟩
    obtain ⟨k, hk, rfl, HT, hb⟩ := hrel
    have hbw : Below w.heap.size w wo := HB0.out.trans (hb.mono HZ0.out)
    have g0 := (hb.block gb hgl0).trans HN0.out
    have hgl := lt_of_heap g0
    obtain ⟨c0, c1, -⟩ := blk2 g0
    by_cases hlt : k < l.length
    · obtain ⟨rfl, -, hbk, hok, p0, p1, p2⟩ := HO.out wo (.of_below hbw) k hlt
      have HERR := Lib.hid (show ∀ c : Int, ptE ((l.take k).map Pnt.nm) l[k] = c → c ≠ 0 → netE l = c from fun c h1 h2 => HNE.out.trans (HT.out.trans (pts_err hlt h1 h2)))
      have HNXT := Lib.hid (fun (h1 : ptE ((l.take k).map Pnt.nm) l[k] = 0) => HT.out.trans (pts_next hlt h1))
      have HK := Lib.hid (show k ≤ 1000 by omega)
      generalize l[k] = p at HERR HNXT p0 p1 p2 hok
      have n1 := heap_alloc_new wo (.cells #[.string p.nm, .int .i64 p.kd, .string p.sy] 29)
      have ng := (Below.heap_alloc wo (.cells #[.string p.nm, .int .i64 p.kd, .string p.sy] 29) _ hgl).trans g0
      have hlb : wo.heap.size < (wo.alloc (.cells #[.string p.nm, .int .i64 p.kd, .string p.sy] 29)).heap.size := by simp
      have HBA := Lib.hid (bl_alloc hb (.cells #[.string p.nm, .int .i64 p.kd, .string p.sy] 29))
      have HSZ := Lib.hid (show w0.heap.size ≤ (wo.alloc (.cells #[.string p.nm, .int .i64 p.kd, .string p.sy] 29)).heap.size from HBA.out.size)
      have hpt : ptE ((l.take k).map Pnt.nm) p = if nameC p.nm = false then 6 else if hasS ((l.take k).map Pnt.nm) p.nm = true then 9 else if p.kd < 1 ∨ 4 < p.kd then 1 else if p.sy ≠ es ∧ nameC p.sy = false then 6 else 0 := rfl
      have HN1 := nameR_hid p.nm
      have HN2 := nameR_hid p.sy
      obtain ⟨nb1, hn1⟩ : ∃ c, nameC p.nm = c := ⟨_, rfl⟩
      obtain ⟨nb2, hn2⟩ : ∃ c, nameC p.sy = c := ⟨_, rfl⟩
      obtain ⟨se, hse⟩ : ∃ c, hasS ((l.take k).map Pnt.nm) p.nm = c := ⟨_, rfl⟩
      rw [hn1] at HN1
      rw [hn2] at HN2
      rw [hn1, hse, hn2] at hpt
      obtain ⟨b0, b1, b2, bf⟩ := blk3 n1
      have k0 : (0 : Int) ≤ (k : Int) := by omega
      have k1 : (k : Int) < (l.length : Int) := by omega
      clear hb hbk hn1 hn2 hbw g0
      cases nb1 with
      | false =>
        have HE := Lib.hid (HERR.out 6 (hpt.trans (if_pos rfl)) (by decide))
        clear hpt
        go_wp2_with (go_at_call 68
                     with_reducible refine (HN1.out _).mono ?_
                     rintro e w1 ⟨rfl, hb1⟩
                     have m1 := hb1.block _ hlb |>.trans n1
                     have g1 := hb1.block _ (Nat.lt_trans hgl hlb) |>.trans ng
                     have HBW := Lib.hid (HBA.out.trans (hb1.mono HSZ.out))
                     obtain ⟨y0, y1, y2, yf⟩ := blk3 m1
                     obtain ⟨y3, y4, -⟩ := blk2 g1
                     have M1 := Lib.hid m1
                     have hl1 := lt_of_heap m1
                     clear hb1 m1 g1 b0 b1 b2 bf)
        go_ret
        exact ⟨ret_i HE.out, HB0.out.trans (HBW.out.mono HZ0.out)⟩
      | true =>
        cases se with
        | true =>
          have HE := Lib.hid (HERR.out 9 (hpt.trans (by rw [if_neg (by decide), if_pos rfl])) (by decide))
          clear hpt
          go_wp2_with (first
            | (go_at_call 68
               with_reducible refine (HN1.out _).mono ?_
               rintro e w1 ⟨rfl, hb1⟩
               have m1 := hb1.block _ hlb |>.trans n1
               have g1 := hb1.block _ (Nat.lt_trans hgl hlb) |>.trans ng
               have HBW := Lib.hid (HBA.out.trans (hb1.mono HSZ.out))
               obtain ⟨y0, y1, y2, yf⟩ := blk3 m1
               obtain ⟨y3, y4, -⟩ := blk2 g1
               have M1 := Lib.hid m1
               have hl1 := lt_of_heap m1
               clear hb1 m1 g1 b0 b1 b2 bf)
            | (go_at_call 66
               with_reducible refine (place_any l _ k HK.out p.nm w1 (H.out.step (HB0.out.trans (HBW.out.mono HZ0.out)))).mono ?_
               rintro e w2 ⟨⟨ip, rfl, hip⟩, rfl⟩
               have hneg := place_pos hip hse
               clear hip))
          go_ret
          exact ⟨ret_i HE.out, HB0.out.trans (HBW.out.mono HZ0.out)⟩
        | false =>
          have hk3 : p.kd < 1 ∨ (1 ≤ p.kd ∧ 4 < p.kd) ∨ (1 ≤ p.kd ∧ p.kd ≤ 4) := by omega
          rcases hk3 with t1 | ⟨t1, t2⟩ | ⟨t1, t2⟩
          · have HE := Lib.hid (HERR.out 1 (hpt.trans (by rw [if_neg (by decide), if_neg (by decide), if_pos (.inl t1)])) (by decide))
            clear hpt
            go_wp2_with (first
              | (go_at_call 68
                 with_reducible refine (HN1.out _).mono ?_
                 rintro e w1 ⟨rfl, hb1⟩
                 have m1 := hb1.block _ hlb |>.trans n1
                 have g1 := hb1.block _ (Nat.lt_trans hgl hlb) |>.trans ng
                 have HBW := Lib.hid (HBA.out.trans (hb1.mono HSZ.out))
                 obtain ⟨y0, y1, y2, yf⟩ := blk3 m1
                 obtain ⟨y3, y4, -⟩ := blk2 g1
                 have M1 := Lib.hid m1
                 have hl1 := lt_of_heap m1
                 clear hb1 m1 g1 b0 b1 b2 bf)
              | (go_at_call 66
                 with_reducible refine (place_any l _ k HK.out p.nm w1 (H.out.step (HB0.out.trans (HBW.out.mono HZ0.out)))).mono ?_
                 rintro e w2 ⟨⟨ip, rfl, hip⟩, rfl⟩
                 have hneg := place_neg hip hse
                 clear hip))
            go_ret
            exact ⟨ret_i HE.out, HB0.out.trans (HBW.out.mono HZ0.out)⟩
          · have HE := Lib.hid (HERR.out 1 (hpt.trans (by rw [if_neg (by decide), if_neg (by decide), if_pos (.inr t2)])) (by decide))
            clear hpt
            go_wp2_with (first
              | (go_at_call 68
                 with_reducible refine (HN1.out _).mono ?_
                 rintro e w1 ⟨rfl, hb1⟩
                 have m1 := hb1.block _ hlb |>.trans n1
                 have g1 := hb1.block _ (Nat.lt_trans hgl hlb) |>.trans ng
                 have HBW := Lib.hid (HBA.out.trans (hb1.mono HSZ.out))
                 obtain ⟨y0, y1, y2, yf⟩ := blk3 m1
                 obtain ⟨y3, y4, -⟩ := blk2 g1
                 have M1 := Lib.hid m1
                 have hl1 := lt_of_heap m1
                 clear hb1 m1 g1 b0 b1 b2 bf)
              | (go_at_call 66
                 with_reducible refine (place_any l _ k HK.out p.nm w1 (H.out.step (HB0.out.trans (HBW.out.mono HZ0.out)))).mono ?_
                 rintro e w2 ⟨⟨ip, rfl, hip⟩, rfl⟩
                 have hneg := place_neg hip hse
                 clear hip))
            go_ret
            exact ⟨ret_i HE.out, HB0.out.trans (HBW.out.mono HZ0.out)⟩
          · rw [if_neg (by decide), if_neg (by decide), if_neg (by omega)] at hpt
            by_cases hsy : p.sy = es
            · have e1 : p.sy.toList.isEmpty = true := by rw [emp_iff]; simpa using hsy
              have HE := Lib.hid (HNXT.out (hpt.trans (if_neg (fun q => q.1 hsy))))
              clear hpt hsy
              go_wp2_with (first
                | (go_at_call 68
                   with_reducible refine (HN1.out _).mono ?_
                   rintro e w1 ⟨rfl, hb1⟩
                   have m1 := hb1.block _ hlb |>.trans n1
                   have g1 := hb1.block _ (Nat.lt_trans hgl hlb) |>.trans ng
                   have HBW := Lib.hid (HBA.out.trans (hb1.mono HSZ.out))
                   obtain ⟨y0, y1, y2, yf⟩ := blk3 m1
                   obtain ⟨y3, y4, -⟩ := blk2 g1
                   have M1 := Lib.hid m1
                   have hl1 := lt_of_heap m1
                   clear hb1 m1 g1 b0 b1 b2 bf)
                | (go_at_call 66
                   with_reducible refine (place_any l _ k HK.out p.nm w1 (H.out.step (HB0.out.trans (HBW.out.mono HZ0.out)))).mono ?_
                   rintro e w2 ⟨⟨ip, rfl, hip⟩, rfl⟩
                   have hneg := place_neg hip hse
                   clear hip))
              go_roundg (l.length - (k + 1))
              case measure => omega
              case rel => exact ⟨k + 1, by omega, by go_num, HE, HBW.out⟩
            · have e1 : p.sy.toList.isEmpty = false := by rw [emp_iff]; simpa using hsy
              cases nb2 with
              | false =>
                have HE := Lib.hid (HERR.out 6 (hpt.trans (if_pos ⟨hsy, rfl⟩)) (by decide))
                clear hpt hsy
                go_wp2_with (first
                  | (go_at_call 68
                     with_reducible refine (HN1.out _).mono ?_
                     rintro e w1 ⟨rfl, hb1⟩
                     have m1 := hb1.block _ hlb |>.trans n1
                     have g1 := hb1.block _ (Nat.lt_trans hgl hlb) |>.trans ng
                     have HBW := Lib.hid (HBA.out.trans (hb1.mono HSZ.out))
                     obtain ⟨y0, y1, y2, yf⟩ := blk3 m1
                     obtain ⟨y3, y4, -⟩ := blk2 g1
                     have M1 := Lib.hid m1
                     have hl1 := lt_of_heap m1
                     clear hb1 m1 g1 b0 b1 b2 bf)
                  | (go_at_call 66
                     with_reducible refine (place_any l _ k HK.out p.nm w1 (H.out.step (HB0.out.trans (HBW.out.mono HZ0.out)))).mono ?_
                     rintro e w2 ⟨⟨ip, rfl, hip⟩, rfl⟩
                     have hneg := place_neg hip hse
                     clear hip)
                  | (go_at_call 68
                     with_reducible refine (HN2.out _).mono ?_
                     rintro e w2 ⟨rfl, hb2⟩
                     have HBX := Lib.hid (HBW.out.trans (hb2.mono HBW.out.size))
                     clear y0 y1 y2 yf y3 y4 hl1 hb2))
                go_ret
                exact ⟨ret_i HE.out, HB0.out.trans (HBX.out.mono HZ0.out)⟩
              | true =>
                have HE := Lib.hid (HNXT.out (hpt.trans (if_neg (fun q => by cases q.2))))
                clear hpt hsy
                go_wp2_with (first
                  | (go_at_call 68
                     with_reducible refine (HN1.out _).mono ?_
                     rintro e w1 ⟨rfl, hb1⟩
                     have m1 := hb1.block _ hlb |>.trans n1
                     have g1 := hb1.block _ (Nat.lt_trans hgl hlb) |>.trans ng
                     have HBW := Lib.hid (HBA.out.trans (hb1.mono HSZ.out))
                     obtain ⟨y0, y1, y2, yf⟩ := blk3 m1
                     obtain ⟨y3, y4, -⟩ := blk2 g1
                     have M1 := Lib.hid m1
                     have hl1 := lt_of_heap m1
                     clear hb1 m1 g1 b0 b1 b2 bf)
                  | (go_at_call 66
                     with_reducible refine (place_any l _ k HK.out p.nm w1 (H.out.step (HB0.out.trans (HBW.out.mono HZ0.out)))).mono ?_
                     rintro e w2 ⟨⟨ip, rfl, hip⟩, rfl⟩
                     have hneg := place_neg hip hse
                     clear hip)
                  | (go_at_call 68
                     with_reducible refine (HN2.out _).mono ?_
                     rintro e w2 ⟨rfl, hb2⟩
                     have HBX := Lib.hid (HBW.out.trans (hb2.mono HBW.out.size))
                     clear y0 y1 y2 yf y3 y4 hl1 hb2))
                go_roundg (l.length - (k + 1))
                case measure => omega
                case rel => exact ⟨k + 1, by omega, by go_num, HE, HBX.out⟩
    · have hkl : ¬ (k : Int) < (l.length : Int) := by omega
      have HE := Lib.hid (show netE l = 0 from HNE.out.trans (HT.out.trans (pts_end (by omega))))
      have HBW := Lib.hid hbw
      clear hb hbw g0
      go_wp2
      go_loopg [5] 0 (fun gx i wr => gx = 0 ∧ i = .int .i64 0 ∧ wo = wr)
      case atStart => exact ⟨rfl, rfl, rfl⟩
      case round =>
        obtain ⟨-, rfl, rfl⟩ := hrel
        go_wp2
        go_ret
        exact ⟨ret_i HE.out, HBW.out⟩
end Go.Proofs.YtbjhemglecllmaaDoor
