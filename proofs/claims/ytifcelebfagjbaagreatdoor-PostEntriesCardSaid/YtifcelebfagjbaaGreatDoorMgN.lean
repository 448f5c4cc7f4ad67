/-
  slices.Delete of one charge in a slice of the call's own.
-/
import Derived.Test.YtifcelebfagjbaaGreatDoorMgM
import Derived.Test.YtifcelebfagjbaaGreatDoorMgL
import Derived.Test.YtifcelebfagjbaaGreatDoorMgG
import Derived.Test.YtifcelebfagjbaaGreatDoorShelf
namespace Go.Tw
open Go.RowKit
section
variable {P : Program}
theorem step_append_r {ops : Array Oper} {o : Oper} {a : Act} {w : World} {K : Act → World → Prop} {Q : Exit → Act → World → Prop} {E : Prop} (hgd : o.guard = none) (d s : Operand) (t t' : TypeId) (ho : o.op = .call { callee := .builtin .append, args := #[d, s], argTypes := #[t, t'] }) {v u : Value} (hd : a.eval d = v) (hs : a.eval s = u) {n : Value} {w' : World}
    (hr : ∀ ty, (Builtin.append_ #[t, t'] ty #[v, u]).run P w = .ok n w') (h : K (a.put o.dst n) w') : if Region.wanted o (yielded ops a.tmps) = true then Oper.wp P o a w K Q else E := by
  rw [if_pos (show Region.wanted o (yielded ops a.tmps) = true by simp [Region.wanted, hgd])]
  exact Lib.wp_append_run w d s t t' ho v u hd hs n w' (hr _) h
end
theorem zero7 (n : Nat) : ∀ v ∈ (Builtin.zeroCells (Value.agg #[.string ByteArray.empty, .string ByteArray.empty, .string ByteArray.empty, .int .i64 0, .int .i64 0, .slice none 0 0, .int .i64 0]).cells n).toList, v.oneCell' = true := by
  intro v hv
  unfold Builtin.zeroCells at hv
  simp only [Array.toList_map, List.mem_map] at hv
  obtain ⟨i, -, rfl⟩ := hv
  have e : (Value.agg #[.string ByteArray.empty, .string ByteArray.empty, .string ByteArray.empty, .int .i64 0, .int .i64 0, .slice none 0 0, .int .i64 0]).cells = #[.string ByteArray.empty, .string ByteArray.empty, .string ByteArray.empty, .int .i64 0, .int .i64 0, .slice none 0 0, .int .i64 0] := by rfl
  rw [e]
  have : i % 7 = 0 ∨ i % 7 = 1 ∨ i % 7 = 2 ∨ i % 7 = 3 ∨ i % 7 = 4 ∨ i % 7 = 5 ∨ i % 7 = 6 := by omega
  show (#[Value.string ByteArray.empty, .string ByteArray.empty, .string ByteArray.empty, .int .i64 0, .int .i64 0, .slice none 0 0, .int .i64 0][i % 7]!).oneCell' = true
  rcases this with q | q | q | q | q | q | q <;> rw [q] <;> rfl
end Go.Tw
namespace Go.Proofs.YtifcelebfagjbaaGreatDoor
open Go.RowKit Go.Tw Go.Tw.Ord Go.Tw.Po Go.Sort
set_option maxRecDepth 100000 in
set_option maxHeartbeats 4000000 in
theorem delete_any (B : Nat) (S : Nat → Prop) (ds : List Chg) (vd : Value) (i : Nat) (w : World) (h : OwnS (tChg eL) 49 B S w vd ds) (hS : ∀ k, S k → k < w.heap.size ∧ some k ≠ vd.ownBlock) (hl : ds.length ≤ 1000) (hi : i < ds.length) :
    Calls Tryz.prog 67 #[vd, .int .i64 i, .int .i64 ((i : Int) + 1)] w (InsE w vd S (ds.take i ++ ds.drop (i + 1))) := by
  obtain ⟨css, h1, h2⟩ := h
  rcases h1.2 with ⟨_, h'⟩ | ⟨g, cap, cur, rfl, hBg, hg, hnc, hcm, hcs, htake⟩
  · omega
  have mixed : Tryz.prog.follows .mixedOrders = true := by kernel_rfl
  have hsz : (tChg eL).sz = 7 := rfl
  have hfl : css.flatten.length = ds.length * 7 := h2.flatten_len
  rw [hsz] at hcs htake
  have hcm' := hcm
  unfold maxLen at hcm
  have i0 : (0 : Int) ≤ (i : Int) := by omega
  have i1 : (i : Int) ≤ (ds.length : Int) := by omega
  have i2 : (i : Int) + 1 ≤ (ds.length : Int) := by omega
  have i3 : (i : Int) ≤ (i : Int) + 1 := by omega
  have i4 : ((i : Int) == (i : Int) + 1) = false := by rw [beq_eq_false_iff_ne]; omega
  have i5 : (0 : Int) ≤ (i : Int) + 1 := by omega
  have i6 : ((i : Int) + 1).toNat = i + 1 := by omega
  have i7 : (ds.length : Int) ≤ (cap : Int) := by omega
  have i8 : (i : Int) ≤ (cap : Int) := by omega
  have i9 : (i : Int) + 1 ≤ (cap : Int) := by omega
  obtain ⟨CS, hCS⟩ : ∃ CS, css.flatten = CS := ⟨_, rfl⟩
  rw [hCS] at htake hfl
  have hone : ∀ v ∈ CS, v.oneCell' = true := by rw [← hCS]; exact h2.one
  have hcell0 : ∀ j v, CS[j]? = some v → w.cell? ⟨g, j, none⟩ = some v := fun j v hj => by
    rw [cell_of_row _ _ _ _ _ _ hg]
    rw [← htake, List.getElem?_take] at hj
    split at hj
    · rwa [Array.getElem?_toList] at hj
    · cases hj
  have hd7 : (CS.drop ((i + 1) * 7)).length = (ds.length - (i + 1)) * 7 := by rw [List.length_drop, hfl]; omega
  have hcl : cur.toList.length = cap * 7 := by rw [← hcs]; exact Array.length_toList
  obtain ⟨und, ⟨j0, z, hj0, hz, hsize, hby, hzs⟩, hpos⟩ := slChg
  have hsize' : j0.size = 7 := hsize
  have hgd : w.drew.heap[g]? = some (.cells cur 49 (0, 0)) := hg
  obtain ⟨A0, hA0, hsrc⟩ : ∃ A : Addr, (if cap = i + 1 then (⟨g, 0, none⟩ : Addr) else ⟨g, (i + 1) * 7, none⟩) = A ∧ ∀ j u, (CS.drop ((i + 1) * 7))[j]? = some u → w.drew.cell? (A.add j) = some u := by
    refine ⟨_, rfl, fun j u hu => ?_⟩
    by_cases hcap : cap = i + 1
    · have h0 : (CS.drop ((i + 1) * 7)).length = 0 := by rw [hd7]; omega
      rw [List.length_eq_zero_iff.1 h0] at hu
      simp at hu
    · rw [if_neg hcap, Addr.add_lit]
      exact hcell0 _ u (by rwa [List.getElem?_drop] at hu)
  have happ : ∀ ty, (Builtin.append_ #[52, 52] ty #[.slice (some ⟨g, 0, none⟩) i cap, .slice (some A0) (ds.length - (i + 1)) (cap - (i + 1))]).run Tryz.prog w.drew = .ok (.slice (some ⟨g, 0, none⟩) (i + (ds.length - (i + 1))) cap) (w.drew.setRow g (cur.toList.take (i * 7) ++ CS.drop ((i + 1) * 7) ++ cur.toList.drop (i * 7 + (CS.drop ((i + 1) * 7)).length)).toArray) := fun ty => by
    have := Go.run_append_room (P := Tryz.prog) w.drew 52 ty 49 j0 und hj0 g i cap cur hgd A0 (ds.length - (i + 1)) (cap - (i + 1)) (CS.drop ((i + 1) * 7)) (by rw [hsize']; exact hd7) hsrc (fun v hv => hone v (List.mem_of_mem_drop hv)) (by omega) (by rw [hsize', hd7, hcs]; omega)
    rw [hsize'] at this
    exact this
  have hpre : (CS.take (i * 7) ++ CS.drop ((i + 1) * 7)) = (cur.toList.take (i * 7) ++ CS.drop ((i + 1) * 7) ++ cur.toList.drop (i * 7 + (CS.drop ((i + 1) * 7)).length)).take ((ds.length - 1) * 7) := by
    have hX : (cur.toList.take (i * 7) ++ CS.drop ((i + 1) * 7)).length = (ds.length - 1) * 7 := by rw [List.length_append, List.length_take, hd7, hcl]; omega
    have hct : cur.toList.take (i * 7) = CS.take (i * 7) := by rw [← htake, List.take_take, Nat.min_eq_left (by omega)]
    rw [List.take_append, ← hX, List.take_length, Nat.sub_self, List.take_zero, List.append_nil, hct]
  have hl1 : (cur.toList.take (i * 7) ++ CS.drop ((i + 1) * 7) ++ cur.toList.drop (i * 7 + (CS.drop ((i + 1) * 7)).length)).length = cap * 7 := by
    rw [List.length_append, List.length_append, List.length_take, List.length_drop (l := cur.toList), hd7, hcl]
    omega
  obtain ⟨C1, hC1⟩ : ∃ C1, cur.toList.take (i * 7) ++ CS.drop ((i + 1) * 7) ++ cur.toList.drop (i * 7 + (CS.drop ((i + 1) * 7)).length) = C1 := ⟨_, rfl⟩
  rw [hC1] at happ hpre hl1
  obtain ⟨W1, hW1⟩ : ∃ W1, w.drew.setRow g C1.toArray = W1 := ⟨_, rfl⟩
  rw [hW1] at happ
  have hg1 : W1.heap[g]? = some (.cells C1.toArray 49 (0, 0)) := by rw [← hW1]; exact setRow_heap _ _ _ _ _ _ hgd
  have hgr1 : w.grownBy W1 (some g) := by rw [← hW1]; exact (grown_drew w _).trans (grown_setRow _ _ _)
  have hzv : ∀ w, (zeroValue 49).run Tryz.prog w = .ok z w := fun w => by
    simp [zeroValue, typeInfo, hj0, hz]
  have hz1 : ∀ v ∈ (Builtin.zeroCells z.cells 1).toList, v.oneCell' = true := by
    have hz0 : z = .agg #[.string ByteArray.empty, .string ByteArray.empty, .string ByteArray.empty, .int .i64 0, .int .i64 0, .slice none 0 0, .int .i64 0] := by
      have h : (Tryz.prog.info? 49).map (fun i => i.zero) = some (some (.agg #[.string ByteArray.empty, .string ByteArray.empty, .string ByteArray.empty, .int .i64 0, .int .i64 0, .slice none 0 0, .int .i64 0])) := by kernel_rfl
      rw [hj0] at h
      simp only [Option.map_some, Option.some.injEq] at h
      rw [hz] at h
      exact Option.some.inj h
    rw [hz0]
    exact zero7 1
  have hzl : (Builtin.zeroCells z.cells 1).toList.length = 7 := by simp [Builtin.zeroCells, hzs]
  have hclr : ∀ ty, (Builtin.clear_ #[52] ty #[.slice (some ⟨g, (ds.length - 1) * 7, none⟩) 1 (cap - (ds.length - 1))]).run Tryz.prog W1 = .ok (.tuple #[]) (W1.setCells g ((ds.length - 1) * 7) (Builtin.zeroCells z.cells 1).toList) := fun ty =>
    Po.run_clear_wide W1 52 49 ty z und hzv g ((ds.length - 1) * 7) 1 _ (by omega) (fun j hj => by
      rw [hzl] at hj
      rw [cell_of_row _ _ _ _ _ _ hg1, List.getElem?_toArray, List.getElem?_eq_getElem (by omega)]; rfl) (fun j _ => frozen_of_row _ _ _ _ _ hg1) hz1
  obtain ⟨W2, hW2⟩ : ∃ W2, W1.setCells g ((ds.length - 1) * 7) (Builtin.zeroCells z.cells 1).toList = W2 := ⟨_, rfl⟩
  rw [hW2] at hclr
  obtain ⟨C2, hg2, hC2l, hC2⟩ := setCells_low (Builtin.zeroCells z.cells 1).toList ((ds.length - 1) * 7) W1 C1.toArray hg1
  rw [hW2] at hg2
  have HFIN : InsE w (.slice (some ⟨g, 0, none⟩) ds.length cap) S (ds.take i ++ ds.drop (i + 1)) (.returned (.slice (some ⟨g, 0, none⟩) (ds.length - 1) cap)) W2 := by
    have hoth : ∀ k, k ≠ g → W2.heap[k]? = W1.heap[k]? := fun k hk => by
      rw [← hW2]
      have : ∀ (vs : List Value) (o : Nat) (W : World), (W.setCells g o vs).heap[k]? = W.heap[k]? := fun vs => by
        induction vs with
        | nil => intro o W; rfl
        | cons v r ih => intro o W; rw [World.setCells, ih]; exact Below.heap_setCell _ _ _ _ hk
      exact this _ _ _
    have hgr : w.grownBy W2 (some g) := by
      have hsz2 : W2.heap.size = W1.heap.size := by
        rw [← hW2]
        have : ∀ (vs : List Value) (o : Nat) (W : World), (W.setCells g o vs).heap.size = W.heap.size := fun vs => by
          induction vs with
          | nil => intro o W; rfl
          | cons v r ih => intro o W; rw [World.setCells, ih]; simp
        exact this _ _ _
      have hrest : W2.os = W1.os ∧ W2.tape = W1.tape ∧ W2.output = W1.output := by
        rw [← hW2]
        have : ∀ (vs : List Value) (o : Nat) (W : World), (W.setCells g o vs).os = W.os ∧ (W.setCells g o vs).tape = W.tape ∧ (W.setCells g o vs).output = W.output := fun vs => by
          induction vs with
          | nil => intro o W; exact ⟨rfl, rfl, rfl⟩
          | cons v r ih => intro o W; rw [World.setCells]; have := ih (o + 1) (W.setCell ⟨g, o, none⟩ v); exact ⟨this.1.trans rfl, this.2.1.trans rfl, this.2.2.trans rfl⟩
        exact this _ _ _
      exact ⟨hrest.1.trans hgr1.os, hrest.2.1.trans hgr1.tape, hrest.2.2.trans hgr1.output, by rw [hsz2]; exact hgr1.size, fun k hk hne => (hoth k (fun e => hne (by rw [e]))).trans (hgr1.block k hk hne)⟩
    refine ⟨_, rfl, ?_, hgr⟩
    have hall := (h2.take i).append (h2.drop (i + 1))
    have hall2 := hall.keep (S' := fun k => (S k ∨ w.heap.size ≤ k ∨ some k = (Value.slice (some ⟨g, 0, none⟩) ds.length cap).ownBlock) ∧ k < W2.heap.size) (fun k hk => ⟨.inl hk, Nat.lt_of_lt_of_le (hS k hk).1 hgr.size⟩) (fun k hk => hgr.block k (hS k hk).1 (hS k hk).2)
    have hll : (ds.take i ++ ds.drop (i + 1)).length = ds.length - 1 := by rw [List.length_append, List.length_take, List.length_drop]; omega
    have := SlIs.of_block (cap := cap) hg2 (by
      rw [List.flatten_append, flat_take i h2.lens.2, flat_drop (i + 1) h2.lens.2, hCS, hsz, hpre]
      refine ⟨C2.toList.drop ((ds.length - 1) * 7), ?_⟩
      have : C1.take ((ds.length - 1) * 7) = C2.toList.take ((ds.length - 1) * 7) := by
        apply List.ext_getElem?
        intro j
        rw [List.getElem?_take, List.getElem?_take]
        split
        · rename_i hj
          rw [Array.getElem?_toList (xs := C2), hC2 j hj]
          simp
        · rfl
      rw [this, List.take_append_drop]) hall2 ⟨.inr (.inr rfl), lt_of_heap hg2⟩ (by rw [hll]; omega) hcm'
    rw [hll] at this
    exact this
  have HF := Lib.hid HFIN
  have i10 : i + (ds.length - (i + 1)) = ds.length - 1 := by omega
  rw [i10] at happ
  have i11 : ¬ (cap = ds.length - 1) := by omega
  have i12 : ((ds.length - 1 : Nat) : Int) ≤ (ds.length : Int) := by omega
  have i13 : ds.length - (ds.length - 1) = 1 := by omega
  clear HFIN hpre hl1 hC1 hW1 hg1 hgr1 hzv hz1 hzl hW2 hg2 hC2l hC2 h2 h1 htake hone hcell0 hd7 hcl und hj0 hz hsize hby hzs hpos hsize' hgd hsrc hfl hg hcs
  by_cases hcap : cap = i + 1
  · rw [if_pos hcap] at hA0
    subst hA0
    subst hcap
    go_enter Tryz.func67, Tryz.ntmps67
    go_wp2_with (fail)
    go_region_law_o (refine step_append_r rfl (.tmp 22) (.tmp 25) 52 52 rfl (by simp [Act.eval, Act.put]; try omega) (by simp [Act.eval, Act.put]; try omega) (fun ty => happ ty) ?_)
    go_wp2
    go_ret
    exact HF.out
  · rw [if_neg hcap] at hA0
    subst hA0
    go_enter Tryz.func67, Tryz.ntmps67
    go_wp2_with (fail)
    go_region_law_o (refine step_append_r rfl (.tmp 22) (.tmp 25) 52 52 rfl (by simp [Act.eval, Act.put]; try omega) (by simp [Act.eval, Act.put]; try omega) (fun ty => happ ty) ?_)
    go_wp2
    go_ret
    exact HF.out
end Go.Proofs.YtifcelebfagjbaaGreatDoor
/-
  Layer 37 (post): version.
-/
namespace Go.Tw.Po
open Go.RowKit Go.Tw
theorem cut_drop {k p : List UInt8} (h : Lib.hasPrefix k p = true) : Lib.trimPrefix k p = k.drop p.length := by
  unfold Lib.trimPrefix
  rw [if_pos h]
theorem index_ge (l : List UInt8) (c : UInt8) : (c ∈ l → 0 ≤ Lib.indexByte l c) ∧ (c ∉ l → Lib.indexByte l c = -1) := by
  induction l with
  | nil => exact ⟨fun h => by simp at h, fun _ => rfl⟩
  | cons b l ih =>
    refine ⟨fun h => ?_, fun h => ?_⟩
    · rw [Lib.indexByte]
      simp only [beq_iff_eq]
      by_cases e : b = c
      · rw [if_pos e]; omega
      · rw [if_neg e]
        have hm : c ∈ l := by
          rcases List.mem_cons.1 h with h | h
          · exact absurd h.symm e
          · exact h
        have := ih.1 hm
        rw [if_neg (by omega)]; omega
    · rw [List.mem_cons, not_or] at h
      rw [Lib.indexByte]
      simp only [beq_iff_eq]
      rw [if_neg (fun e => h.1 e.symm), if_pos (ih.2 h.2)]
theorem index_has (l : List UInt8) (c : UInt8) : decide (0 ≤ Lib.indexByte l c) = l.contains c := by
  by_cases h : c ∈ l
  · rw [List.contains_iff_mem.2 h]
    simpa using (index_ge l c).1 h
  · have h2 := (index_ge l c).2 h
    rw [h2, show l.contains c = false by rw [Bool.eq_false_iff]; intro q; exact h (List.contains_iff_mem.1 q)]
    rfl
theorem kb_cat (s : ByteArray) : (s ++ ⟨#[35]⟩ : ByteArray).data.toList = kb s ++ [35] := by unfold kb; simp
/-- what CutPrefix leaves -/
def cutR (k s : ByteArray) : ByteArray := ⟨(Lib.trimPrefix k.data.toList (s ++ ⟨#[35]⟩ : ByteArray).data.toList).toArray⟩
def cutB (k s : ByteArray) : Bool := Lib.hasPrefix k.data.toList (s ++ ⟨#[35]⟩ : ByteArray).data.toList
theorem ver_no {k s : ByteArray} (h : cutB k s = false) : isVer k s = false := by
  unfold isVer
  unfold cutB at h
  rw [kb_cat] at h
  show (Lib.hasPrefix k.data.toList (kb s ++ [35]) && _ && _) = false
  rw [h]; rfl
theorem cut_kb {k s : ByteArray} (h : cutB k s = true) : (cutR k s).data.toList = (kb k).drop ((kb s).length + 1) := by
  unfold cutR
  unfold cutB at h
  rw [cut_drop h, kb_cat]
  simp [kb]
theorem ver_yes {k s : ByteArray} (h : cutB k s = true) : isVer k s = (!decide ((cutR k s).size = 0) && !((cutR k s).data.toList.contains 35)) := by
  have h1 := cut_kb h
  unfold isVer
  have h2 : Lib.hasPrefix (kb k) (kb s ++ [35]) = true := by
    unfold cutB at h
    rw [kb_cat] at h
    exact h
  rw [h2, ← h1]
  have h3 : (cutR k s).data.toList.isEmpty = decide ((cutR k s).size = 0) := by
    rw [Bool.eq_iff_iff, List.isEmpty_iff, decide_eq_true_eq]
    constructor
    · intro e
      have : (cutR k s).data.toList.length = 0 := by rw [e]; rfl
      simpa using this
    · intro e
      exact List.eq_nil_of_length_eq_zero (by simpa using e)
  rw [h3, Bool.true_and]
end Go.Tw.Po
namespace Go.Proofs.YtifcelebfagjbaaGreatDoor
open Go.RowKit Go.Tw Go.Tw.Ord Go.Tw.Po Go.Sort
set_option maxRecDepth 100000 in
set_option maxHeartbeats 2000000 in
theorem version_any (l : List Ent) (v : Value) (s : ByteArray) (w : World) (h : SlIs (tEnt 101) (· < w.heap.size) w v l) (hs : s.size ≤ 100000) (hl : l.length ≤ 1000000) :
    Calls Tryz.prog 49 #[.agg #[v], .string s] w fun e w' => e = .returned (.int .i64 (verN l s)) ∧ Below w.heap.size w w' := by
  have HB0 := Lib.hid (bl_alloc (Below.refl w.heap.size w) (.cells #[v] 68))
  obtain ⟨ao, cap, bi, off, rfl, h1, h2, ho⟩ := ent_open h
  unfold maxLen at h2
  have HO := Lib.hid ho
  have hz : ¬ (9223372036854775807 < s.size + 1) := by omega
  clear h ho
  go_enter Tryz.func49, Tryz.ntmps49
  go_wp2
  go_loopg [5, 13] l.length (fun g n i wr => ∃ (k : Nat), k + g = l.length ∧ i = .int .i64 k ∧ n = .int .i64 (verN (l.take k) s) ∧ Below w.heap.size w wr)
  case atStart => exact ⟨0, by omega, rfl, rfl, HB0.out⟩
  case round =>
    obtain ⟨k, hk, rfl, rfl, hb1⟩ := hrel
    have HB := Lib.hid hb1
    by_cases hlt : k < l.length
    · obtain ⟨rfl, -, hbi, -, hv, hsl, c0, c1, c2⟩ := HO.out wr (.of_below hb1) k hlt
      obtain ⟨hva, hvc, _, _, rfl, -⟩ := hsl
      have k0 : (0 : Int) ≤ (k : Int) := by omega
      have k1 : (k : Int) < (l.length : Int) := by omega
      have HT := Lib.hid (ver_take (s := s) hlt)
      have hle : verN (l.take k) s ≤ k := Nat.le_trans ver_le (List.length_take_le _ _)
      obtain ⟨n, hn⟩ : ∃ n, verN (l.take k) s = n := ⟨_, rfl⟩
      obtain ⟨n', hn'⟩ : ∃ n, verN (l.take (k + 1)) s = n := ⟨_, rfl⟩
      rw [hn] at hle ⊢
      rw [hn, hn'] at HT
      have HN' := Lib.hid hn'
      generalize l[k] = y at *
      have HBA := Lib.hid (bl_alloc HB.out (.cells #[.string y.key, .int .i64 y.tm, .slice hva y.ps.length hvc] 56))
      have HCP := Lib.hid (fun W => Tryz.strings_CutPrefix y.key (s ++ ⟨#[35]⟩) W)
      have HVN := Lib.hid (ver_no (k := y.key) (s := s))
      have HVY := Lib.hid (ver_yes (k := y.key) (s := s))
      have HCP := Lib.hid (show ∀ W, Calls Tryz.prog 85 #[.string y.key, .string (s ++ ⟨#[35]⟩)] W fun e w' => e = .returned (.tuple #[.string (cutR y.key s), .bool (cutB y.key s)]) ∧ w' = W from HCP.out)
      have HCT := Lib.hid (show ∀ W, Calls Tryz.prog 86 #[.string (cutR y.key s), .string ⟨#[35]⟩] W fun e w' => e = .returned (.bool ((cutR y.key s).data.toList.contains 35)) ∧ w' = W from fun W => by rw [← index_has]; exact Tryz.strings_Contains_one _ 35 W)
      obtain ⟨cb, hcb⟩ : ∃ cb, cutB y.key s = cb := ⟨_, rfl⟩
      obtain ⟨cr, hcr⟩ : ∃ cr, cutR y.key s = cr := ⟨_, rfl⟩
      rw [hcb] at HVN HVY HCP
      rw [hcr] at HVY HCP HCT
      obtain ⟨ct, hct⟩ : ∃ ct, cr.data.toList.contains 35 = ct := ⟨_, rfl⟩
      rw [hct] at HVY HCT
      have hw1 : IntKind.i64.wrap ((n : Int) + 1) = (n : Int) + 1 := wrap_in (by omega) (by omega)
      clear hn hn' hcb hcr hct hb1
      cases cb with
      | false =>
        have HE := Lib.hid (show n' = n by rw [HT.out, HVN.out rfl]; simp)
        go_wp2_with (first
                     | (go_at_call 85; with_reducible refine (HCP.out _).mono ?_; rintro e w1 ⟨rfl, rfl⟩)
                     | (go_at_call 86; with_reducible refine (HCT.out _).mono ?_; rintro e w1 ⟨rfl, rfl⟩))
        go_roundg (l.length - (k + 1))
        case measure => omega
        case rel => exact ⟨k + 1, by omega, by go_num, by rw [HN'.out, HE.out], HBA.out⟩
      | true =>
        by_cases hz0 : cr.size = 0
        · have HE := Lib.hid (show n' = n by rw [HT.out, HVY.out rfl, decide_eq_true hz0]; simp)
          have he := emp_yes hz0
          clear hz0
          go_wp2_with (first
                       | (go_at_call 85; with_reducible refine (HCP.out _).mono ?_; rintro e w1 ⟨rfl, rfl⟩)
                       | (go_at_call 86; with_reducible refine (HCT.out _).mono ?_; rintro e w1 ⟨rfl, rfl⟩))
          go_roundg (l.length - (k + 1))
          case measure => omega
          case rel => exact ⟨k + 1, by omega, by go_num, by rw [HN'.out, HE.out], HBA.out⟩
        · have he := emp_no hz0
          have HZ := Lib.hid (decide_eq_false hz0)
          clear hz0
          cases ct with
          | true =>
            have HE := Lib.hid (show n' = n by rw [HT.out, HVY.out rfl, HZ.out]; simp)
            go_wp2_with (first
                         | (go_at_call 85; with_reducible refine (HCP.out _).mono ?_; rintro e w1 ⟨rfl, rfl⟩)
                         | (go_at_call 86; with_reducible refine (HCT.out _).mono ?_; rintro e w1 ⟨rfl, rfl⟩))
            go_roundg (l.length - (k + 1))
            case measure => omega
            case rel => exact ⟨k + 1, by omega, by go_num, by rw [HN'.out, HE.out], HBA.out⟩
          | false =>
            have HE := Lib.hid (show n' = n + 1 by rw [HT.out, HVY.out rfl, HZ.out]; simp)
            go_wp2_with (first
                         | (go_at_call 85; with_reducible refine (HCP.out _).mono ?_; rintro e w1 ⟨rfl, rfl⟩)
                         | (go_at_call 86; with_reducible refine (HCT.out _).mono ?_; rintro e w1 ⟨rfl, rfl⟩))
            go_roundg (l.length - (k + 1))
            case measure => omega
            case rel => exact ⟨k + 1, by omega, by go_num, by rw [HN'.out, HE.out]; go_num, HBA.out⟩
    · have hkd : decide ((k : Int) < (l.length : Int)) = false := by simp; omega
      have HE := Lib.hid (show verN (l.take k) s = verN l s by rw [List.take_of_length_le (by omega)])
      go_wp2
      go_ret
      exact ⟨ret_int (by rw [HE.out]), HB.out⟩
end Go.Proofs.YtifcelebfagjbaaGreatDoor
/-
  Layer 37 (post): Apply.
-/
namespace Go.Tw
open Go.RowKit
theorem alloc4 (w : World) (o1 o2 o3 o4 : Obj) : ((((w.alloc o1).alloc o2).alloc o3).alloc o4).heap[w.heap.size]? = some o1 ∧ ((((w.alloc o1).alloc o2).alloc o3).alloc o4).heap[w.heap.size + 1]? = some o2 ∧ ((((w.alloc o1).alloc o2).alloc o3).alloc o4).heap[w.heap.size + 2]? = some o3 ∧ ((((w.alloc o1).alloc o2).alloc o3).alloc o4).heap[w.heap.size + 3]? = some o4 := by
  obtain ⟨h1, h2, h3⟩ := alloc3 w o1 o2 o3
  refine ⟨(Below.heap_alloc _ _ _ (by simp; try omega)).trans h1, (Below.heap_alloc _ _ _ (by simp; try omega)).trans h2, (Below.heap_alloc _ _ _ (by simp)).trans h3, ?_⟩
  have := heap_alloc_new (((w.alloc o1).alloc o2).alloc o3) o4
  simpa using this
end Go.Tw
namespace Go.Proofs.YtifcelebfagjbaaGreatDoor
open Go.RowKit Go.Tw Go.Tw.Ord Go.Tw.Po Go.Sort
/-- books in block n -/
def BB (n : Nat) (a b : Value) (wr : World) : Prop := wr.heap[n]? = some (.cells #[a, b] 70 (0, 0))
/-- the boxes of Apply -/
structure AW (n : Nat) (A : Array Value) (ve vd : Value) (x : Chg) (v : Value) (wr : World) : Prop where
  b0 : wr.heap[n]? = some (.cells A 46 (0, 0))
  b1 : BB (n + 1) ve vd wr
  b2 : XB (n + 2) x v wr
  b3 : BB (n + 3) (.slice none 0 0) (.slice none 0 0) wr
theorem AW.same {n : Nat} {A : Array Value} {ve vd v : Value} {x : Chg} {w w' : World} (h : AW n A ve vd x v w) (hs : ∀ k, n ≤ k → k ≤ n + 3 → w'.heap[k]? = w.heap[k]?) : AW n A ve vd x v w' :=
  ⟨(hs n (Nat.le_refl _) (by omega)).trans h.b0, (hs (n + 1) (by omega) (by omega)).trans h.b1, (hs (n + 2) (by omega) (by omega)).trans h.b2, (hs (n + 3) (by omega) (by omega)).trans h.b3⟩
theorem AW.step {n B : Nat} {A : Array Value} {ve vd v : Value} {x : Chg} {w w' : World} (h : AW n A ve vd x v w) (hb : Below B w w') (hB : n + 3 < B) : AW n A ve vd x v w' := h.same fun k _ hk => hb.block k (by omega)
theorem AW.put {n : Nat} {A : Array Value} {ve vd v : Value} {x : Chg} {w : World} (h : AW n A ve vd x v w) {q : Addr} (hq : n + 3 < q.block) (u : Value) : AW n A ve vd x v (w.setCell q u) := h.same fun k _ hk => Below.heap_setCell _ _ _ _ (by omega)
/-- the answer: books and an error -/
def BookE (w : World) (vb : Value) (r : Bk × Int) (e : Ending) (w' : World) : Prop := ∃ ve vd, e = .returned (.tuple #[.agg #[ve, vd], .int .i64 r.2]) ∧ SlIs (tEnt 101) (fun k => (r.2 = 0 → w.heap.size ≤ k) ∧ k < w'.heap.size) w' ve r.1.es ∧ SlIs (tChg eL) (fun k => (r.2 = 0 → w.heap.size ≤ k) ∧ k < w'.heap.size) w' vd r.1.ds ∧ Below w.heap.size w w' ∧ (r.2 ≠ 0 → Value.agg #[ve, vd] = vb)
/-- .. the books as they came -/
theorem BookE.old {w w' : World} {b : Bk} {z : Int} {ve vd : Value} (hz : z ≠ 0) (he : SlIs (tEnt 101) (· < w.heap.size) w ve b.es) (hd : SlIs (tChg eL) (· < w.heap.size) w vd b.ds) (hb : Below w.heap.size w w') : BookE w (.agg #[ve, vd]) (b, z) (.returned (.tuple #[.agg #[ve, vd], .int .i64 z])) w' :=
  ⟨ve, vd, rfl, (he.step hb).keep (fun _ h => ⟨fun e => absurd e hz, h⟩) (SameOn.refl _ _), (hd.step hb).keep (fun _ h => ⟨fun e => absurd e hz, h⟩) (SameOn.refl _ _), hb, fun _ => rfl⟩
/-- what Apply looks at while it makes a key -/
def XBB (n : Nat) (ve vd : Value) (x : Chg) (v : Value) (wr : World) : Prop := BB (n + 1) ve vd wr ∧ XB (n + 2) x v wr
theorem addP_pos (l : List SI) (a : ByteArray) (n : Int) : 0 < (addP l a n).length := by
  cases l with
  | nil => simp [addP]
  | cons p l => rw [addP]; split <;> simp
theorem moveP_pos (c : List Acc) (l : List SI) (x : Chg) (n : Int) : 0 < (moveP c l x n).length := addP_pos _ _ _
theorem NewL.ownS {α : Type} {T : Ty α} {e : TypeId} {m : Nat} {w : World} {v : Value} {l : List α} (h : NewL T e m w v l) : OwnS T e m (fun k => m ≤ k ∧ k < w.heap.size ∧ some k ≠ v.ownBlock) w v l := by
  obtain ⟨F, h1, nd, hB⟩ := h
  have hlt := h1.lt
  obtain ⟨css, Fs, h1, h2, rfl⟩ := h1
  refine ⟨css, ⟨h1.1, ?_⟩, AllIs.widen h2.is (fun k hk => ⟨hB k (List.mem_append_right _ hk), hlt k (List.mem_append_right _ hk), fun e => ?_⟩)⟩
  · rcases h1.2 with h | ⟨g, cap, cur, rfl, hb, rest⟩
    · exact .inl h
    · exact .inr ⟨g, cap, cur, rfl, hB g (by simp [Value.ownBlock]), rest⟩
  · rw [List.nodup_append] at nd
    exact nd.2.2 k (by rw [← e]; simp) k hk rfl
theorem AllIs.setAt' {α : Type} {T : Ty α} {S : Nat → Prop} {w : World} : ∀ {css : List (List Value)} {l : List α} (i : Nat) {ci : List Value} {y : α}, AllIs T S w css l → T.is S w ci y → AllIs T S w (css.set i ci) (l.set i y)
  | [], [], _, _, _, _, _ => by simp [AllIs]
  | _ :: css, _ :: l, 0, _, _, h, hy => ⟨hy, h.2⟩
  | _ :: css, _ :: l, i + 1, _, _, h, hy => ⟨h.1, AllIs.setAt' i h.2 hy⟩
  | [], _ :: _, _, _, _, h, _ => h.elim
  | _ :: _, [], _, _, _, h, _ => h.elim
/-- where an own slice's elements lie, and what a whole store into one of them makes of it: the elements may look at blocks -/
theorem OwnS.storeA {α : Type} {T : Ty α} {e : TypeId} {B : Nat} {S : Nat → Prop} {w : World} {v : Value} {l : List α} (h : OwnS T e B S w v l) (hS : ∀ k, S k → some k ≠ v.ownBlock) (hl : 0 < l.length) : ∃ g cap cur, v = .slice (some ⟨g, 0, none⟩) l.length cap ∧ B ≤ g ∧ g < w.heap.size ∧ w.heap[g]? = some (.cells cur e (0, 0)) ∧ l.length * T.sz ≤ cur.size ∧
    ∀ (i : Nat) (A : Array Value) (y : α), i < l.length → T.is S w A.toList y → OwnS T e B S (w.setRow g (cur.toList.take (i * T.sz) ++ A.toList ++ cur.toList.drop (i * T.sz + T.sz)).toArray) v (l.set i y) := by
  obtain ⟨css, h1, h2⟩ := h
  rcases h1.2 with ⟨_, h'⟩ | ⟨g, cap, cur, rfl, hB, hg, h3, h4, h5, h6⟩
  · omega
  have hlt := (Array.getElem?_eq_some_iff.1 hg).1
  obtain ⟨l1, l2⟩ := h2.lens
  refine ⟨g, cap, cur, rfl, hB, hlt, hg, by rw [h5]; exact Nat.mul_le_mul_right _ h3, fun i A y hi hy => ?_⟩
  have hAl := T.len hy
  have hfl := h2.flatten_len
  have e1 : cur.toList = css.flatten ++ cur.toList.drop (l.length * T.sz) := by rw [← h6, List.take_append_drop]
  have e2 : cur.toList.take (i * T.sz) ++ A.toList ++ cur.toList.drop (i * T.sz + T.sz) = (css.set i A.toList).flatten ++ cur.toList.drop (l.length * T.sz) := by
    conv => lhs; rw [e1]
    exact flat_set_mid i l2 (by omega) hAl
  have hfl2 : (css.set i A.toList).flatten.length = l.length * T.sz := by
    have := congrArg List.length e2
    have h7 := congrArg List.length e1
    have h8 : (i + 1) * T.sz ≤ l.length * T.sz := Nat.mul_le_mul_right _ hi
    have h9 : l.length * T.sz ≤ cap * T.sz := Nat.mul_le_mul_right _ h3
    rw [Nat.succ_mul] at h8
    simp only [List.length_append, List.length_take, List.length_drop, Array.length_toList, hAl] at this h7
    omega
  refine ⟨css.set i A.toList, ⟨by rw [hfl2, List.length_set], .inr ⟨g, cap, _, by rw [List.length_set], hB, setRow_heap _ _ cur _ e (0, 0) hg, by rw [List.length_set]; exact h3, h4, ?_, ?_⟩⟩, ?_⟩
  · rw [e2]
    have h8 : l.length * T.sz ≤ cap * T.sz := Nat.mul_le_mul_right _ h3
    simp only [List.size_toArray, List.length_append, hfl2, List.length_drop, Array.length_toList]
    omega
  · rw [e2]
    simp only [List.length_set]
    rw [← hfl2, List.take_left']
    rfl
  · exact (AllIs.setAt' i h2 hy).keep (fun k hk => hk) (fun k hk => setRow_other w g k _ (fun e => hS k hk (by rw [e]; rfl)))
theorem ap_chk {c : List Acc} {b : Bk} {x : Chg} (h : chkC x ≠ 0) : applyP c b x = (b, chkC x) := by unfold applyP; rw [if_pos h]
theorem ap_s {c : List Acc} {b : Bk} {x : Chg} (h : chkC x = 0) {es' : List Ent} {z : Int} (he : enterL b.es (keyC x.key (verN b.es x.key)) x.tm (postsA c b.ds x) = (es', z)) : applyP c b x = if z ≠ 0 then (b, z) else (⟨es', putP b.ds x⟩, 0) := by unfold applyP; rw [if_neg (by simp [h])]; simp only [he]
set_option maxRecDepth 100000 in
set_option maxHeartbeats 8000000 in
theorem apply_any (L : List Chg) (N : Nat) (c : List Acc) (A : Array Value) (va ve vd vx : Value) (es : List Ent) (ds : List Chg) (x : Chg) (w : World) (hA : CfgA A va) (hc : SlIs (tAcc 138) (· < w.heap.size) w va c) (hk : CfOk c) (hb : BOk L N ⟨es, ds⟩) (hN : N ≤ 900) (hxc : COk x)
    (he : SlIs (tEnt 101) (· < w.heap.size) w ve es) (hd : SlIs (tChg eL) (· < w.heap.size) w vd ds) (hx : ChgOk x) (hv : SlIs tSI (· < w.heap.size) w vx x.ls) (hf : FmtAll w) :
    Calls Tryz.prog 21 #[.agg A, .agg #[ve, vd], .agg #[.string x.key, .string x.veh, .string x.sys, .int .i64 x.cls, .int .i64 x.tm, vx, .int .i64 x.c]] w (BookE w (.agg #[ve, vd]) (applyP c ⟨es, ds⟩ x)) := by
  have h0 := alloc4 w (.cells A 46) (.cells #[ve, vd] 70) (.cells #[.string x.key, .string x.veh, .string x.sys, .int .i64 x.cls, .int .i64 x.tm, vx, .int .i64 x.c] 49) (.cells #[.slice none 0 0, .slice none 0 0] 70)
  have HY := Lib.hid (show AW w.heap.size A ve vd x vx _ from ⟨h0.1, h0.2.1, h0.2.2.1, h0.2.2.2⟩)
  have HB0 := Lib.hid (bl_alloc (bl_alloc (bl_alloc (bl_alloc (Below.refl w.heap.size w) (.cells A 46)) (.cells #[ve, vd] 70)) (.cells #[.string x.key, .string x.veh, .string x.sys, .int .i64 x.cls, .int .i64 x.tm, vx, .int .i64 x.c] 49)) (.cells #[.slice none 0 0, .slice none 0 0] 70))
  have HCK := Lib.hid (pcheck_any x vx _ hx (hv.step HB0.out) (by have := hxc.ls; omega))
  obtain ⟨xa, xc, _, _, rfl, -⟩ := id hv
  obtain ⟨ae, ce, _, _, rfl, -⟩ := id he
  obtain ⟨ad, cd, bd, od, rfl, hd1, hd2, hdo⟩ := chg_open hd
  have HDO := Lib.hid hdo
  have HA := Lib.hid hA
  have HC := Lib.hid hc
  have HK := Lib.hid hk
  have HX := Lib.hid hx
  have HXC := Lib.hid hxc
  have HV := Lib.hid hv
  have HF := Lib.hid hf
  have HE := Lib.hid he
  have HD := Lib.hid hd
  have HBK := Lib.hid hb
  clear hA hc hk hx hxc hv hf h0 he hd hdo hb
  obtain ⟨z, hz⟩ : ∃ z, chkC x = z := ⟨_, rfl⟩
  rw [hz] at HCK
  by_cases hz0 : z = 0
  case neg =>
    have HR := Lib.hid (ap_chk (c := c) (b := ⟨es, ds⟩) (x := x) (by rw [hz]; exact hz0))
    rw [hz] at HR
    have hz1 : (z != 0) = true := by simpa using hz0
    clear hz hz0
    go_enter Tryz.func21, Tryz.ntmps21
    go_wp2_with (fail)
    with_reducible refine HCK.out.mono ?_
    rintro r w2 ⟨rfl, hb⟩
    have HY2 := Lib.hid (HY.out.step hb (by simp))
    have HB2 := Lib.hid (bl_trans HB0.out hb)
    obtain ⟨e0, e1, ef⟩ := blk2 HY2.out.b3
    obtain ⟨d0, d1, -⟩ := blk2 HY2.out.b1
    have hlt := lt_of_heap HY2.out.b3
    clear hb HCK HY
    go_wp2
    have g5 : ((w2.setCell ⟨w.heap.size + 1 + 1 + 1, 0, none⟩ (.slice ae es.length ce)).setCell ⟨w.heap.size + 1 + 1 + 1, 1, none⟩ (.slice ad ds.length cd)).heap[w.heap.size + 1 + 1 + 1]? = some (.cells #[(.slice ae es.length ce), (.slice ad ds.length cd)] 70 (0, 0)) := heap_setCell_same _ _ _ _ _ _ (heap_setCell_same _ _ _ _ _ _ HY2.out.b3)
    have b5 : Below w.heap.size w ((w2.setCell ⟨w.heap.size + 1 + 1 + 1, 0, none⟩ (.slice ae es.length ce)).setCell ⟨w.heap.size + 1 + 1 + 1, 1, none⟩ (.slice ad ds.length cd)) := bl_set (bl_set HB2.out _ (by simp only; omega)) _ (by simp only; omega)
    obtain ⟨k0, k1, -⟩ := blk2 g5
    generalize (w2.setCell ⟨w.heap.size + 1 + 1 + 1, 0, none⟩ (.slice ae es.length ce)).setCell ⟨w.heap.size + 1 + 1 + 1, 1, none⟩ (.slice ad ds.length cd) = w9 at *
    refine bodyPost_ret (v := .tuple #[.agg #[(.slice ae es.length ce), (.slice ad ds.length cd)], .int .i64 z]) (by simp [results, Tryz.results21, go_sem, k0, k1]) rfl ?_
    rw [HR.out]
    exact BookE.old (by simpa using hz1) HE.out HD.out b5
  subst hz0
  have HCF := Lib.hid (chk_facts hz)
  have HZ := Lib.hid hz
  have hz1 : ((0 : Int) != 0) = false := rfl
  clear hz
  go_enter Tryz.func21, Tryz.ntmps21
  go_wp2_with (fail)
  with_reducible refine HCK.out.mono ?_
  rintro r w2 ⟨rfl, hb⟩
  have HY2 := Lib.hid (HY.out.step hb (by simp))
  have HB2 := Lib.hid (bl_trans HB0.out hb)
  have hlt := lt_of_heap HY2.out.b3
  clear hb HCK HY
  go_upto_region 5 with (fail)
  have hA3 := bl_alloc (Below.refl w2.heap.size w2) (.cells #[.string ⟨#[]⟩, .int .i64 0, .slice none 0 0] 105)
  have g3 := heap_alloc_new w2 (.cells #[.string ⟨#[]⟩, .int .i64 0, .slice none 0 0] 105)
  generalize w2.alloc (.cells #[.string ⟨#[]⟩, .int .i64 0, .slice none 0 0] 105) = wb at hA3 g3 ⊢
  have HY3 := Lib.hid (HY2.out.step hA3 hlt)
  have HB3 := Lib.hid (bl_trans HB2.out hA3)
  have HG3 := Lib.hid g3
  have hxb : XBB w.heap.size (.slice ae es.length ce) (.slice ad ds.length cd) x (.slice xa x.ls.length xc) wb := ⟨HY3.out.b1, HY3.out.b2⟩
  have HL0 := Lib.hid (show ∀ w', XBB w.heap.size (.slice ae es.length ce) (.slice ad ds.length cd) x (.slice xa x.ls.length xc) w' → w'.cell? ⟨w.heap.size + 1 + 1, 0, none⟩ = some (.string x.key) from fun w' h => (blk7 h.2).1)
  have HL4 := Lib.hid (show ∀ w', XBB w.heap.size (.slice ae es.length ce) (.slice ad ds.length cd) x (.slice xa x.ls.length xc) w' → w'.cell? ⟨w.heap.size + 1 + 1, 4, none⟩ = some (.int .i64 x.tm) from fun w' h => (blk7 h.2).2.2.2.2.1)
  have HLB := Lib.hid (show ∀ w', XBB w.heap.size (.slice ae es.length ce) (.slice ad ds.length cd) x (.slice xa x.ls.length xc) w' → w'.cell? ⟨w.heap.size + 1, 0, none⟩ = some (.slice ae es.length ce) from fun w' h => (blk2 h.1).1)
  have hvl : (verN es x.key : Int) ≤ 900 := by have h1 := HBK.out.len; have h2 := ver_le (l := es) (s := x.key); simp only at h1; omega
  have HVE := Lib.hid (show ∀ W, Below w.heap.size w W → Calls Tryz.prog 49 #[.agg #[.slice ae es.length ce], .string x.key] W fun e w' => e = .returned (.int .i64 (verN es x.key)) ∧ Below W.heap.size W w' from fun W hW => version_any es _ x.key W (HE.out.step hW) (by have := HXC.out.key; omega) (by have := HBK.out.len; simp only at this; omega))
  have HKY := Lib.hid (show ∀ W, Below w.heap.size w W → Calls Tryz.prog 34 #[.string x.key, .int .i64 (verN es x.key)] W fun e w' => e = .returned (.string (keyC x.key (verN es x.key))) ∧ Below W.heap.size W w' from fun W hW => key_any x.key _ W (by have := HXC.out.key; omega) (by unfold i64ok; omega) ((HF.out _ (by unfold i64ok; omega)).step hW))
  have HKS := Lib.hid (show (keyC x.key (verN es x.key)).size ≤ 81 from keyC_size HXC.out.key (by unfold i64ok; omega))
  generalize hkk : keyC x.key (verN es x.key) = kk at HKY HKS
  generalize (verN es x.key : Int) = vn at HVE HKY hvl
  clear hA3 g3
  refine wp_region_D (fun j => if j < 16 then 0 else if j < 16 then 1 else 2) (XBB w.heap.size (.slice ae es.length ce) (.slice ad ds.length cd) x (.slice xa x.ls.length xc)) (by kernel_rfl) (hxb) (fun hHeld => ?_)
  refine wpD_take (i := 0) (v := ?_) rfl (by kernel_rfl) (fun _ _ _ h => h) (Or.inl ⟨by kernel_rfl, ?_⟩) (by assumption) ?_
  rotate_left
  focus (intro w9 hS9; clear hS9; go_simp; (try with_reducible rfl))
  (try simp only [List.getElem_toArray, List.getElem_cons_zero])
  (try simp only [Act.put])
  (try simp only [List.setIfInBounds_toArray])
  (repeat (first | simp only [List.set_cons_succ] | simp only [List.set_cons_zero]))
  refine wpD_take (i := 1) (v := ?_) rfl (by kernel_rfl) (fun _ _ _ h => h) (Or.inl ⟨by kernel_rfl, ?_⟩) (by assumption) ?_
  rotate_left
  focus (intro w9 hS9; have z0 := HL0.out w9 hS9; clear hS9; go_simp; (try with_reducible rfl))
  (try simp only [List.getElem_toArray, List.getElem_cons_succ, List.getElem_cons_zero])
  (try simp only [Act.put])
  (try simp only [List.setIfInBounds_toArray])
  (repeat (first | simp only [List.set_cons_succ] | simp only [List.set_cons_zero]))
  refine wpD_take (i := 2) (v := ?_) rfl (by kernel_rfl) (fun _ _ _ h => h) (Or.inl ⟨by kernel_rfl, ?_⟩) (by assumption) ?_
  rotate_left
  focus (intro w9 hS9; clear hS9; go_simp; (try with_reducible rfl))
  (try simp only [List.getElem_toArray, List.getElem_cons_succ, List.getElem_cons_zero])
  (try simp only [Act.put])
  (try simp only [List.setIfInBounds_toArray])
  (repeat (first | simp only [List.set_cons_succ] | simp only [List.set_cons_zero]))
  refine wpD_take (i := 3) (v := ?_) rfl (by kernel_rfl) (fun _ _ _ h => h) (Or.inl ⟨by kernel_rfl, ?_⟩) (by assumption) ?_
  rotate_left
  focus (intro w9 hS9; have z0 := HLB.out w9 hS9; clear hS9; go_simp; (try with_reducible rfl))
  (try simp only [List.getElem_toArray, List.getElem_cons_succ, List.getElem_cons_zero])
  (try simp only [Act.put])
  (try simp only [List.setIfInBounds_toArray])
  (repeat (first | simp only [List.set_cons_succ] | simp only [List.set_cons_zero]))
  refine wpD_take (i := 4) (v := ?_) rfl (by kernel_rfl) (fun _ _ _ h => h) (Or.inl ⟨by kernel_rfl, ?_⟩) (by assumption) ?_
  rotate_left
  focus (intro w9 hS9; clear hS9; go_simp; (try with_reducible rfl))
  (try simp only [List.getElem_toArray, List.getElem_cons_succ, List.getElem_cons_zero])
  (try simp only [Act.put])
  (try simp only [List.setIfInBounds_toArray])
  (repeat (first | simp only [List.set_cons_succ] | simp only [List.set_cons_zero]))
  refine wpD_take (i := 5) (v := ?_) rfl (by kernel_rfl) (fun _ _ _ h => h) (Or.inl ⟨by kernel_rfl, ?_⟩) (by assumption) ?_
  rotate_left
  focus (intro w9 hS9; have z0 := HL0.out w9 hS9; clear hS9; go_simp; (try with_reducible rfl))
  (try simp only [List.getElem_toArray, List.getElem_cons_succ, List.getElem_cons_zero])
  (try simp only [Act.put])
  (try simp only [List.setIfInBounds_toArray])
  (repeat (first | simp only [List.set_cons_succ] | simp only [List.set_cons_zero]))
  refine wpD_take (i := 8) (v := ?_) rfl (by kernel_rfl) (fun _ _ _ h => h) (Or.inl ⟨by kernel_rfl, ?_⟩) (by assumption) ?_
  rotate_left
  focus (intro w9 hS9; clear hS9; go_simp; (try with_reducible rfl))
  (try simp only [List.getElem_toArray, List.getElem_cons_succ, List.getElem_cons_zero])
  (try simp only [Act.put])
  (try simp only [List.setIfInBounds_toArray])
  (repeat (first | simp only [List.set_cons_succ] | simp only [List.set_cons_zero]))
  refine wpD_take (i := 9) (v := ?_) rfl (by kernel_rfl) (fun _ _ _ h => h) (Or.inl ⟨by kernel_rfl, ?_⟩) (by assumption) ?_
  rotate_left
  focus (intro w9 hS9; have z0 := HL4.out w9 hS9; clear hS9; go_simp; (try with_reducible rfl))
  (try simp only [List.getElem_toArray, List.getElem_cons_succ, List.getElem_cons_zero])
  (try simp only [Act.put])
  (try simp only [List.setIfInBounds_toArray])
  (repeat (first | simp only [List.set_cons_succ] | simp only [List.set_cons_zero]))
  refine wpD_ready (rs := [6]) (by kernel_rfl) (by kernel_rfl) ?_
  refine AllReadyD.cons rfl (fun K hK => ?_) AllReadyD.nil
  go_simp
  with_reducible refine (HVE.out _ (Below.drew HB3.out)).mono ?_
  rintro r w4 ⟨rfl, hb4⟩
  have HB34 := Lib.hid (show Below wb.heap.size wb w4 from bl_trans (Below.drew (Below.refl _ _)) hb4)
  clear hb4
  clear hHeld
  refine hK.out _ _ ⟨fun _ => ⟨(HB34.out.block _ (lt_of_heap HY3.out.b1)).trans HY3.out.b1, (HB34.out.block _ (lt_of_heap HY3.out.b2)).trans HY3.out.b2⟩, fun h => absurd h (by decide)⟩ (fun hHeld0 => ?_)
  have hHeld := hHeld0.1 rfl
  clear hHeld0 hK K
  refine wpD_ready (rs := [7]) (by kernel_rfl) (by kernel_rfl) ?_
  refine AllReadyD.cons rfl (fun K hK => ?_) AllReadyD.nil
  go_simp
  with_reducible refine (HKY.out _ (bl_trans HB3.out HB34.out)).mono ?_
  rintro r w5 ⟨rfl, hb5⟩
  have HB35 := Lib.hid (show Below wb.heap.size wb w5 from bl_trans HB34.out hb5)
  clear hb5
  clear hHeld
  refine hK.out _ _ ⟨fun _ => ⟨(HB35.out.block _ (lt_of_heap HY3.out.b1)).trans HY3.out.b1, (HB35.out.block _ (lt_of_heap HY3.out.b2)).trans HY3.out.b2⟩, fun h => absurd h (by decide)⟩ (fun hHeld0 => ?_)
  have hHeld := hHeld0.1 rfl
  clear hHeld0 hK K
  have g5 := (HB35.out.block _ (lt_of_heap HG3.out)).trans HG3.out
  obtain ⟨q0, q1, q2, qf⟩ := blk3 g5
  have hl5 : w2.heap.size < w5.heap.size := lt_of_heap g5
  have HG5 := Lib.hid g5
  have hne1 : w.heap.size + 1 ≠ w2.heap.size := by omega
  have hne2 : w.heap.size + 2 ≠ w2.heap.size := by omega
  clear g5
  refine wpD_take (i := 10) (v := ?_) rfl (by kernel_rfl) (fun _ _ _ h => h) (Or.inl ⟨by kernel_rfl, ?_⟩) (by assumption) ?_
  rotate_left
  focus (intro w9 hS9; clear hS9; go_simp; (try with_reducible rfl))
  (try simp only [List.getElem_toArray, List.getElem_cons_succ, List.getElem_cons_zero])
  (try simp only [Act.put])
  (try simp only [List.setIfInBounds_toArray])
  (repeat (first | simp only [List.set_cons_succ] | simp only [List.set_cons_zero]))
  refine wpD_take (i := 11) (v := ?_) rfl (by kernel_rfl) (fun _ _ _ h => h) (Or.inl ⟨by kernel_rfl, ?_⟩) (by assumption) ?_
  rotate_left
  focus (intro w9 hS9; clear hS9; go_simp; (try with_reducible rfl))
  (try simp only [List.getElem_toArray, List.getElem_cons_succ, List.getElem_cons_zero])
  (try simp only [Act.put])
  (try simp only [List.setIfInBounds_toArray])
  (repeat (first | simp only [List.set_cons_succ] | simp only [List.set_cons_zero]))
  refine wpD_ready (rs := [12]) (by kernel_rfl) (by kernel_rfl) ?_
  refine AllReadyD.cons rfl (fun K hK => ?_) AllReadyD.nil
  rw [if_pos (show _ = true by kernel_rfl)]
  go_simp
  have HXB5 := Lib.hid (show XBB w.heap.size (.slice ae es.length ce) (.slice ad ds.length cd) x (.slice xa x.ls.length xc) w5 from hHeld)
  clear hHeld
  refine hK.out _ _ ⟨fun _ => ⟨(Below.heap_setCell _ _ _ _ hne1).trans HXB5.out.1, (Below.heap_setCell _ _ _ _ hne2).trans HXB5.out.2⟩, fun h => absurd h (by decide)⟩ (fun hHeld0 => ?_)
  have hHeld := hHeld0.1 rfl
  clear hHeld0 hK K
  refine wpD_take (i := 13) (v := ?_) rfl (by kernel_rfl) (fun _ _ _ h => h) (Or.inl ⟨by kernel_rfl, ?_⟩) (by assumption) ?_
  rotate_left
  focus (intro w9 hS9; clear hS9; go_simp; (try with_reducible rfl))
  (try simp only [List.getElem_toArray, List.getElem_cons_succ, List.getElem_cons_zero])
  (try simp only [Act.put])
  (try simp only [List.setIfInBounds_toArray])
  (repeat (first | simp only [List.set_cons_succ] | simp only [List.set_cons_zero]))
  refine wpD_take (i := 14) (v := ?_) rfl (by kernel_rfl) (fun _ _ _ h => h) (Or.inl ⟨by kernel_rfl, ?_⟩) (by assumption) ?_
  rotate_left
  focus (intro w9 hS9; clear hS9; go_simp; (try with_reducible rfl))
  (try simp only [List.getElem_toArray, List.getElem_cons_succ, List.getElem_cons_zero])
  (try simp only [Act.put])
  (try simp only [List.setIfInBounds_toArray])
  (repeat (first | simp only [List.set_cons_succ] | simp only [List.set_cons_zero]))
  refine wpD_ready (rs := [15]) (by kernel_rfl) (by kernel_rfl) ?_
  refine AllReadyD.cons rfl (fun K hK => ?_) AllReadyD.nil
  rw [if_pos (show _ = true by kernel_rfl)]
  go_simp
  clear hHeld
  refine hK.out _ _ ⟨fun _ => ⟨(Below.heap_setCell _ _ _ _ hne1).trans ((Below.heap_setCell _ _ _ _ hne1).trans HXB5.out.1), (Below.heap_setCell _ _ _ _ hne2).trans ((Below.heap_setCell _ _ _ _ hne2).trans HXB5.out.2)⟩, fun h => absurd h (by decide)⟩ (fun hHeld0 => ?_)
  have hHeld := hHeld0.1 rfl
  clear hHeld0 hK K
  refine wpD_done (by kernel_rfl) ?_
  have g6 : ((w5.setCell ⟨w2.heap.size, 0, none⟩ (.string kk)).setCell ⟨w2.heap.size, 1, none⟩ (.int .i64 x.tm)).heap[w2.heap.size]? = some (.cells #[.string kk, .int .i64 x.tm, .slice none 0 0] 105 (0, 0)) := heap_setCell_same _ _ _ _ _ _ (heap_setCell_same _ _ _ _ _ _ HG5.out)
  have b6 : Below w.heap.size w ((w5.setCell ⟨w2.heap.size, 0, none⟩ (.string kk)).setCell ⟨w2.heap.size, 1, none⟩ (.int .i64 x.tm)) := bl_set (bl_set (bl_trans HB3.out HB35.out) _ HB2.out.size) _ HB2.out.size
  have y6 := ((HY3.out.step HB35.out (by have := lt_of_heap HY3.out.b3; omega)).put (q := ⟨w2.heap.size, 0, none⟩) (by simp only; omega) (.string kk)).put (q := ⟨w2.heap.size, 1, none⟩) (by simp only; omega) (.int .i64 x.tm)
  generalize (w5.setCell ⟨w2.heap.size, 0, none⟩ (.string kk)).setCell ⟨w2.heap.size, 1, none⟩ (.int .i64 x.tm) = w6 at g6 b6 y6 ⊢
  have HY6 := Lib.hid y6
  have HB6 := Lib.hid b6
  have HG6 := Lib.hid g6
  have hl6 : w2.heap.size < w6.heap.size := lt_of_heap g6
  have hw02 : w.heap.size ≤ w2.heap.size := HB2.out.size
  obtain ⟨gd, hgd⟩ : ∃ gd, w2.heap.size = gd := ⟨_, rfl⟩
  rw [hgd] at HG6 hl6 hlt hw02 ⊢
  have HFD := Lib.hid (find_any ds (.slice ae es.length ce) (.slice ad ds.length cd) x.key w6 (HD.out.step b6))
  obtain ⟨d0, d1, -⟩ := blk2 y6.b1
  obtain ⟨x0, x1, x2, x3, x4, x5, x6, -⟩ := blk7 y6.b2
  have x0' : w6.cell? ⟨w.heap.size + 1 + 1, 0, none⟩ = some (.string x.key) := x0
  clear g6 b6 y6 q0 q1 q2 qf hl5 HG5 HXB5 hHeld HY3 HB3 HG3 HL0 HL4 HLB HVE HKY HB34 HB35 hxb HY2 HB2 hne1 hne2 hgd x0 x1 x2 x3 x4 x5 x6
  go_wp2_with (fail)
  with_reducible refine HFD.out.mono ?_
  rintro r w7 ⟨rfl, hb7⟩
  have HY7 := Lib.hid (HY6.out.step hb7 (by omega))
  have HB7 := Lib.hid (bl_trans HB6.out hb7)
  have g7 := (hb7.block gd hl6).trans HG6.out
  have HDW := Lib.hid (show DW w7.heap.size gd kk x.tm [] w7 (.slice none 0 0) from ⟨g7, NewL.nil, lt_of_heap g7⟩)
  clear hb7 g7 HFD d0 d1 x0' HY6 HB6 HG6 hl6
  rcases fnd_two ds x.key with ⟨f1, f2, f3⟩ | ⟨k, hk, f1, f2, f3, f4⟩
  · rw [f1]
    have HPS := Lib.hid (show postsA c ds x = moveP c [] x x.c by unfold postsA; rw [f2])
    have HF3 := Lib.hid f3
    have hcf := HCF.out
    have HMV := Lib.hid (move_any c A va x xa x.ls.length xc w7.heap.size gd kk x.tm [] (.slice none 0 0) x.c 0 w7 HDW.out (Nat.le_refl _) (by simp) (nil_amt 0) (by omega) (by omega) (by omega) HA.out (HC.out.step HB7.out) HK.out HXC.out.veh HXC.out.sys)
    have hld := load_blk HY7.out.b0 HA.out.size Tryz.prog
    obtain ⟨x0, x1, x2, x3, x4, x5, x6, -⟩ := blk7 HY7.out.b2
    have x0' : w7.cell? ⟨w.heap.size + 1 + 1, 0, none⟩ = some (.string x.key) := x0
    have x1' : w7.cell? ⟨w.heap.size + 1 + 1, 1, none⟩ = some (.string x.veh) := x1
    have x2' : w7.cell? ⟨w.heap.size + 1 + 1, 2, none⟩ = some (.string x.sys) := x2
    have x3' : w7.cell? ⟨w.heap.size + 1 + 1, 3, none⟩ = some (.int .i64 x.cls) := x3
    have x4' : w7.cell? ⟨w.heap.size + 1 + 1, 4, none⟩ = some (.int .i64 x.tm) := x4
    have x5' : w7.cell? ⟨w.heap.size + 1 + 1, 5, none⟩ = some (.slice xa x.ls.length xc) := x5
    have x6' : w7.cell? ⟨w.heap.size + 1 + 1, 6, none⟩ = some (.int .i64 x.c) := x6
    clear f1 f2 f3 hcf x0 x1 x2 x3 x4 x5 x6
    go_wp2_with (first | (refine wpList_loadA _ rfl 46 rfl Tryz.isAgg46 Tryz.sizeOf46 rfl (by with_reducible assumption) ?_) | fail)
    with_reducible refine HMV.out.mono ?_
    rintro r w8 ⟨rfl, ⟨v8, hd8⟩, hk8⟩
    clear x0' x1' x2' x3' x4' x5' x6' hld HMV
    obtain ⟨a8, c8, rfl, -⟩ := hd8.own.form
    have hgB := hd8.lt
    have HY8 := Lib.hid (HY7.out.same fun j h1 h2 => hk8.same j ⟨by omega, by omega⟩)
    have HB8 := Lib.hid (show Below w.heap.size w w8 from HB7.out.trans (hk8.bel.mono (by omega)))
    have HBK8 := Lib.hid (show Below w.heap.size w7 w8 from hk8.bel.mono (by omega))
    have hs78 := hk8.bel.size
    have hp4 : (postsA c ds x).length ≤ 4 := postsA_len c ds x
    rw [HPS.out] at hp4
    have HEN := Lib.hid (enter_any w7.heap.size es (.slice ae es.length ce) kk x.tm _ _ w8 hs78 (HE.out.keep (fun j (hj : j < w.heap.size) => Nat.lt_of_lt_of_le hj HB7.out.size) (.of_below HB8.out)) hd8.own (by have := HKS.out; unfold maxLen; omega) HX.out.tm HBK.out.es (by have := HBK.out.len; simp only at this; omega) hp4 (moveP_pos _ _ _ _))
    obtain ⟨e0, e1, e2, -⟩ := blk3 hd8.box
    obtain ⟨d0, d1, -⟩ := blk2 HY8.out.b1
    clear hd8 hk8 hp4
    go_wp2_with (fail)
    with_reducible refine HEN.out.mono ?_
    clear HEN
    rintro r w9 ⟨⟨ve9, rfl, hs9⟩, hb9⟩
    have HY9 := Lib.hid (HY8.out.step hb9 (by have := HY7.out.b3; have := lt_of_heap this; omega))
    have HB9 := Lib.hid (HB8.out.trans (hb9.mono HB7.out.size))
    obtain ⟨⟨es9, z9⟩, hen⟩ : ∃ r, enterL es kk x.tm (moveP c [] x x.c) = r := ⟨_, rfl⟩
    rw [hen] at hs9 ⊢
    simp only at hs9 ⊢
    obtain ⟨a9, c9, _, _, rfl, -⟩ := id hs9
    have HS9 := Lib.hid hs9
    have HEN := Lib.hid (show enterL es (keyC x.key (verN es x.key)) x.tm (postsA c ds x) = (es9, z9) by rw [hkk, HPS.out]; exact hen)
    have HRR := Lib.hid (ap_s (c := c) (b := ⟨es, ds⟩) HZ.out HEN.out)
    have hl9 := lt_of_heap HY9.out.b3
    clear hs9 hb9 hen e0 e1 e2 d0 d1
    have m0 : w.heap.size < w9.heap.size := by omega
    have m1 : w.heap.size + 1 < w9.heap.size := by omega
    have m2 : w.heap.size + 1 + 1 < w9.heap.size := by omega
    have m3 : w.heap.size + 1 + 1 + 1 < w9.heap.size := by omega
    obtain ⟨d0, d1, -⟩ := blk2 HY9.out.b1
    obtain ⟨f0, f1, ff⟩ := blk2 HY9.out.b3
    have f0' : w9.cell? ⟨w.heap.size + 1 + 1 + 1, 0, none⟩ = some (.slice none 0 0) := f0
    have f1' : w9.cell? ⟨w.heap.size + 1 + 1 + 1, 1, none⟩ = some (.slice none 0 0) := f1
    have ff' : ∀ j, w9.frozen? ⟨w.heap.size + 1 + 1 + 1, j, none⟩ = false := ff
    clear f0 f1 ff
    by_cases hz9 : z9 = 0
    case neg =>
      have HR := Lib.hid (HRR.out.trans (if_pos hz9))
      have hz1 : (z9 != 0) = true := by simpa using hz9
      clear hz9
      go_wp2
      have g5 := alloc1_old (.cells #[.slice a9 es9.length c9] 68) (show ((w9.setCell ⟨w.heap.size + 1 + 1 + 1, 0, none⟩ (.slice ae es.length ce)).setCell ⟨w.heap.size + 1 + 1 + 1, 1, none⟩ (.slice ad ds.length cd)).heap[w.heap.size + 1 + 1 + 1]? = some (.cells #[(.slice ae es.length ce), (.slice ad ds.length cd)] 70 (0, 0)) from heap_setCell_same _ _ _ _ _ _ (heap_setCell_same _ _ _ _ _ _ HY9.out.b3))
      have b5 : Below w.heap.size w (((w9.setCell ⟨w.heap.size + 1 + 1 + 1, 0, none⟩ (.slice ae es.length ce)).setCell ⟨w.heap.size + 1 + 1 + 1, 1, none⟩ (.slice ad ds.length cd)).alloc (.cells #[.slice a9 es9.length c9] 68)) := bl_alloc (bl_set (bl_set HB9.out _ (by simp only; omega)) _ (by simp only; omega)) _
      obtain ⟨k0, k1, -⟩ := blk2 g5
      generalize ((w9.setCell ⟨w.heap.size + 1 + 1 + 1, 0, none⟩ (.slice ae es.length ce)).setCell ⟨w.heap.size + 1 + 1 + 1, 1, none⟩ (.slice ad ds.length cd)).alloc (.cells #[.slice a9 es9.length c9] 68) = wz at *
      refine bodyPost_ret (v := .tuple #[.agg #[(.slice ae es.length ce), (.slice ad ds.length cd)], .int .i64 z9]) (by simp [results, Tryz.results21, go_sem, k0, k1]) rfl ?_
      rw [HR.out]
      exact BookE.old (by simpa using hz1) HE.out HD.out b5
    subst hz9
    have HR := Lib.hid (HRR.out.trans (if_neg (by simp)))
    clear HRR
    have hes9 := enter_es HEN.out HBK.out.len HBK.out.es (Nat.le_trans (keyC_size (s := x.key) HXC.out.key (n_ok (Nat.le_trans ver_le HBK.out.len) (by omega))) (by omega)) (postsA_len c ds x)
    have hds8 := HBK.out.ds
    simp only at hds8
    have hAl := bl_alloc (Below.refl w9.heap.size w9) (.cells #[.slice a9 es9.length c9] 68)
    have HCL := Lib.hid (bclone_any es9 ds (.slice a9 es9.length c9) (.slice ad ds.length cd) (w9.alloc (.cells #[.slice a9 es9.length c9] 68)) (HS9.out.step hAl) (HD.out.keep (fun j (hj : j < w.heap.size) => Nat.lt_of_lt_of_le hj (Nat.le_trans HB9.out.size hAl.size)) (.of_below (HB9.out.trans (hAl.mono HB9.out.size)))) (by omega) (by omega) (fun e he => by have := (hes9.2 e he).ps; omega) (fun y hy => by have := (HBK.out.cok y hy).ls; omega))
    have HBA := Lib.hid (HB9.out.trans (hAl.mono HB9.out.size))
    have HYA := Lib.hid (HY9.out.step hAl hl9)
    clear hes9 hAl hz1
    go_wp2_with (fail)
    with_reducible refine HCL.out.mono ?_
    clear HCL
    rintro r w11 ⟨ve2, vd2, m, rfl, hm, hm11, hs2, hn2, hb11⟩
    obtain ⟨ae2, ce2, _, _, rfl, -⟩ := id hs2
    obtain ⟨ad2, cd2, rfl, hcd2, hcd3⟩ := hn2.form
    have HY11 := Lib.hid (HYA.out.step hb11 (by have := lt_of_heap HYA.out.b3; omega))
    have HB11 := Lib.hid (bl_trans HBA.out hb11)
    have HSE := Lib.hid (show SlIs (tEnt 101) (fun j => w.heap.size + 4 ≤ j ∧ j < w11.heap.size ∧ j < m) w11 (.slice ae2 es9.length ce2) es9 from hs2.keep (fun j hj => ⟨by have h1 := hj.1; simp only [World.size_alloc] at h1; omega, Nat.lt_of_lt_of_le hj.2 hm11, hj.2⟩) (SameOn.refl _ _))
    have HND := Lib.hid hn2
    have hm9 : w9.heap.size + 1 ≤ m := by simpa using hm
    clear hs2 hn2 hb11 hm d0 d1 f0' f1' ff' HBA HYA
    have HSRT := Lib.hid HBK.out.sort
    have hbB := bl_alloc (Below.refl w11.heap.size w11) (.cells #[.slice ae2 es9.length ce2, .slice ad2 ds.length cd2] 70)
    have gB := heap_alloc_new w11 (.cells #[.slice ae2 es9.length ce2, .slice ad2 ds.length cd2] 70)
    have h11 : w.heap.size + 3 < w11.heap.size := lt_of_heap HY11.out.b3
    go_upto_region 20 with (fail)
    generalize w11.alloc (.cells #[.slice ae2 es9.length ce2, .slice ad2 ds.length cd2] 70) = w12 at hbB gB ⊢
    have HY12 := Lib.hid (HY11.out.step hbB h11)
    have HBO := Lib.hid hbB
    have HB12 := Lib.hid (bl_trans HB11.out hbB)
    have HN12 := Lib.hid (HND.out.below hbB)
    have HND2 := Lib.hid (NewL.ownS HND.out)
    have HG12 := Lib.hid (show BB w11.heap.size (.slice ae2 es9.length ce2) (.slice ad2 ds.length cd2) w12 from gB)
    have HDR := Lib.hid (chg_open HN12.out.sl')
    have h12 := hbB.size
    have h12' := lt_of_heap gB
    clear hbB gB HND HY11
    go_wp2
    go_loopg [10] ds.length (fun g i wr => ∃ j : Nat, j + g = ds.length ∧ i = .int .i64 j ∧ Hid (∀ q (hq : q < ds.length), q < j → ltB ds[q].key x.key = true) ∧ Hid (Below w12.heap.size w12 wr))
    case atStart => exact ⟨0, by omega, rfl, Lib.hid (fun q _ h => by omega), Lib.hid (Below.refl _ _)⟩
    case round =>
      obtain ⟨j, hj, rfl, HT, HBW⟩ := hrel
      obtain ⟨_, _, b9, o9, hvq, _, _, hdr⟩ := HDR.out
      have gw := (HBW.out.block _ (lt_of_heap HG12.out)).trans HG12.out
      obtain ⟨c0, c1, -⟩ := blk2 gw
      have hxw := (HBW.out.block _ (lt_of_heap HY12.out.b2)).trans HY12.out.b2
      obtain ⟨x0, -⟩ := blk7 hxw
      have x0' : wr.cell? ⟨w.heap.size + 1 + 1, 0, none⟩ = some (.string x.key) := x0
      clear gw hxw x0
      by_cases hlt2 : j < ds.length
      · obtain ⟨hao, -, -, -, hv9, -, k0, -⟩ := hdr wr (.of_below HBW.out) j hlt2
        injection hvq with q1 q2 q3
        rw [← q1] at hao
        subst hao
        have j0 : (0 : Int) ≤ (j : Int) := by omega
        have j1 : (j : Int) < (ds.length : Int) := by omega
        obtain ⟨q, hq⟩ : ∃ q, Op.bytesLess ds[j].key.toList x.key.toList = q := ⟨_, rfl⟩
        have HQ := Lib.hid (show ltB ds[j].key x.key = q from (less_str _ _).symm.trans hq)
        clear q1 q2 q3 hdr
        cases q with
        | true =>
          go_wp2_with (go_quiet (fail))
          go_roundg (ds.length - (j + 1))
          case measure => omega
          case rel => exact ⟨j + 1, by omega, by go_num, Lib.hid (fun i hi h => by
            by_cases e : i = j
            · subst e; exact HQ.out
            · exact HT.out i hi (by omega)), Lib.hid (bl_drewN HBW.out _)⟩
        | false =>
          go_wp2_with (go_quiet (fail))
          have HBZ := Lib.hid (bl_drewN HBW.out nq)
          have HPUT := Lib.hid (put_none (l := ds) (x := x) (k := j) (by omega) (fun y hy e => by
            obtain ⟨q, hq, rfl⟩ := List.getElem_of_mem hy
            exact HF3.out q hq e) (fun q hq hlt => HT.out q hq hlt) (fun _ => HQ.out))
          generalize (wr.drewN nq) = wz at HBZ ⊢
          have hBZ := HBZ.out
          have gz : BB w11.heap.size (.slice ae2 es9.length ce2) (.slice (some ⟨b9, o9, none⟩) ds.length cd2) wz := (hBZ.block _ (lt_of_heap HG12.out)).trans HG12.out
          have yz : AW w.heap.size A (.slice ae es.length ce) (.slice ad ds.length cd) x (.slice xa x.ls.length xc) wz := HY12.out.step hBZ (lt_of_heap HY12.out.b3)
          have HGZ := Lib.hid gz
          have HYZ := Lib.hid yz
          have hzz := hBZ.size
          have HXK := Lib.hid (show ∀ w', Below wz.heap.size wz w' → w'.cell? ⟨w11.heap.size, 1, none⟩ = some (.slice (some ⟨b9, o9, none⟩) ds.length cd2) from fun w' hw' => (blk2 ((hw'.block _ (lt_of_heap HGZ.out)).trans HGZ.out)).2.1)
          have HX7 := Lib.hid (show ∀ w', Below wz.heap.size wz w' → w'.cell? ⟨w.heap.size + 1 + 1, 0, none⟩ = some (.string x.key) ∧ w'.cell? ⟨w.heap.size + 1 + 1, 1, none⟩ = some (.string x.veh) ∧ w'.cell? ⟨w.heap.size + 1 + 1, 2, none⟩ = some (.string x.sys) ∧ w'.cell? ⟨w.heap.size + 1 + 1, 3, none⟩ = some (.int .i64 x.cls) ∧ w'.cell? ⟨w.heap.size + 1 + 1, 4, none⟩ = some (.int .i64 x.tm) ∧ w'.cell? ⟨w.heap.size + 1 + 1, 5, none⟩ = some (.slice xa x.ls.length xc) ∧ w'.cell? ⟨w.heap.size + 1 + 1, 6, none⟩ = some (.int .i64 x.c) from fun w' hw' => by
            obtain ⟨z0, z1, z2, z3, z4, z5, z6, -⟩ := blk7 ((hw'.block _ (lt_of_heap HYZ.out.b2)).trans HYZ.out.b2)
            exact ⟨z0, z1, z2, z3, z4, z5, z6⟩)
          have HCC := Lib.hid (show ∀ W, Below wz.heap.size wz W → Calls Tryz.prog 52 #[.agg #[.string x.key, .string x.veh, .string x.sys, .int .i64 x.cls, .int .i64 x.tm, .slice xa x.ls.length xc, .int .i64 x.c]] W fun e w' => ∃ h', e = .returned (.agg #[.string x.key, .string x.veh, .string x.sys, .int .i64 x.cls, .int .i64 x.tm, h', .int .i64 x.c]) ∧ NewL tSI 140 W.heap.size w' h' x.ls ∧ Below W.heap.size W w' from fun W hW => cloneC_any x _ W (HV.out.step (bl_trans (bl_trans HB12.out HBZ.out) hW)) (by have := HXC.out.ls; omega))
          clear gz yz c0 c1 x0' HT HDR
          refine wp_region_E 6 (fun w' => Below wz.heap.size wz w') (by kernel_rfl) ((by (repeat (first | (with_reducible exact Below.refl _ _) | (with_reducible apply bl_drewN) | (with_reducible apply bl_alloc) | (with_reducible apply Below.drew))); done)) (fun hHeld => ?_)
          refine wpE_take (i := 0) (v := ?_) rfl (by kernel_rfl) (fun _ _ _ h => h) (Or.inl ⟨by kernel_rfl, ?_⟩) (by assumption) ?_
          rotate_left
          focus (intro w9 hS9; (try dsimp only at hS9); go_simp; (try with_reducible rfl))
          (try simp only [List.getElem_toArray, List.getElem_cons_zero])
          (try simp only [Act.put])
          (try simp only [List.setIfInBounds_toArray])
          (repeat (first | simp only [List.set_cons_succ] | simp only [List.set_cons_zero]))
          refine wpE_take (i := 1) (v := ?_) rfl (by kernel_rfl) (fun _ _ _ h => h) (Or.inl ⟨by kernel_rfl, ?_⟩) (by assumption) ?_
          rotate_left
          focus (intro w9 hS9; have z0 := HXK.out w9 hS9; clear hS9; go_simp; (try with_reducible rfl))
          (try simp only [List.getElem_toArray, List.getElem_cons_succ, List.getElem_cons_zero])
          (try simp only [Act.put])
          (try simp only [List.setIfInBounds_toArray])
          (repeat (first | simp only [List.set_cons_succ] | simp only [List.set_cons_zero]))
          refine wpE_take (i := 2) (v := ?_) rfl (by kernel_rfl) (fun _ _ _ h => h) (Or.inl ⟨by kernel_rfl, ?_⟩) (by assumption) ?_
          rotate_left
          focus (intro w9 hS9; (try dsimp only at hS9); go_simp; (try with_reducible rfl))
          (try simp only [List.getElem_toArray, List.getElem_cons_succ, List.getElem_cons_zero])
          (try simp only [Act.put])
          (try simp only [List.setIfInBounds_toArray])
          (repeat (first | simp only [List.set_cons_succ] | simp only [List.set_cons_zero]))
          refine wpE_take (i := 3) (v := ?_) rfl (by kernel_rfl) (fun _ _ _ h => h) (Or.inl ⟨by kernel_rfl, ?_⟩) (by assumption) ?_
          rotate_left
          focus (intro w9 hS9; obtain ⟨z0, z1, z2, z3, z4, z5, z6⟩ := HX7.out w9 hS9; clear hS9; go_simp; (try with_reducible rfl))
          (try simp only [List.getElem_toArray, List.getElem_cons_succ, List.getElem_cons_zero])
          (try simp only [Act.put])
          (try simp only [List.setIfInBounds_toArray])
          (repeat (first | simp only [List.set_cons_succ] | simp only [List.set_cons_zero]))
          refine wpE_ready (rs := [4]) (by kernel_rfl) (by kernel_rfl) ?_
          refine AllReadyE.cons rfl (fun K hK => ?_) AllReadyE.nil
          go_simp
          with_reducible refine (HCC.out _ (by (repeat (first | (with_reducible exact Below.refl _ _) | (with_reducible apply bl_drewN) | (with_reducible apply bl_alloc) | (with_reducible apply Below.drew))); done)).mono ?_
          rintro r w13 ⟨h', rfl, hn5, hb5⟩
          obtain ⟨a5, c5, rfl, -⟩ := hn5.form
          have HN5 := Lib.hid (show NewL tSI 140 wz.heap.size w13 (.slice a5 x.ls.length c5) x.ls from hn5)
          have HB5 := Lib.hid (show Below wz.heap.size wz w13 from bl_trans (by (repeat (first | (with_reducible exact Below.refl _ _) | (with_reducible apply bl_drewN) | (with_reducible apply bl_alloc) | (with_reducible apply Below.drew))); done) hb5)
          clear hn5 hb5 HCC
          clear hHeld
          refine hK.out _ _ (HB5.out) (fun hHeld => ?_)
          clear hK K
          refine wpE_ready (rs := [5]) (by kernel_rfl) (by kernel_rfl) ?_
          refine AllReadyE.cons rfl (fun K hK => ?_) AllReadyE.nil
          go_simp
          clear hHeld
          refine hK.out _ _ (bl_trans HB5.out (by (repeat (first | (with_reducible exact Below.refl _ _) | (with_reducible apply bl_drewN) | (with_reducible apply bl_alloc) | (with_reducible apply Below.drew))); done)) (fun hHeld => ?_)
          clear hK K
          clear hHeld
          refine wpE_out (by kernel_rfl) ?_
          refine wpAny_ready (rs := [6]) (by kernel_rfl) (by simp) ?_
          refine AllReady.cons rfl (fun K hK => ?_) AllReady.nil
          rw [if_pos (show _ = true by kernel_rfl)]
          go_simp
          have hW5 := bl_alloc HB5.out (.cells #[.string x.key, .string x.veh, .string x.sys, .int .i64 x.cls, .int .i64 x.tm, .slice a5 x.ls.length c5, .int .i64 x.c] 49)
          have g13 := heap_alloc_new w13 (.cells #[.string x.key, .string x.veh, .string x.sys, .int .i64 x.cls, .int .i64 x.tm, .slice a5 x.ls.length c5, .int .i64 x.c] 49)
          have hz13 : (w13.alloc (.cells #[.string x.key, .string x.veh, .string x.sys, .int .i64 x.cls, .int .i64 x.tm, .slice a5 x.ls.length c5, .int .i64 x.c] 49)).heap.size = w13.heap.size + 1 := by simp
          have HN14 := Lib.hid (HN5.out.below (bl_alloc (Below.refl w13.heap.size w13) (.cells #[.string x.key, .string x.veh, .string x.sys, .int .i64 x.cls, .int .i64 x.tm, .slice a5 x.ls.length c5, .int .i64 x.c] 49)))
          generalize w13.alloc (.cells #[.string x.key, .string x.veh, .string x.sys, .int .i64 x.cls, .int .i64 x.tm, .slice a5 x.ls.length c5, .int .i64 x.c] 49) = w14 at hW5 g13 hz13 HN14 ⊢
          have HW5 := Lib.hid hW5
          have hs5 := HB5.out.size
          have HOW := Lib.hid (HND2.out.own_lt)
          have hb1114 : Below w11.heap.size w11 w14 := bl_trans (bl_trans HBO.out HBZ.out) hW5
          have HINS := Lib.hid (insert_any m (fun q => m ≤ q ∧ q ≠ w11.heap.size ∧ q < w14.heap.size ∧ some q ≠ (Value.slice (some ⟨b9, o9, none⟩) ds.length cd2).ownBlock) ds (.slice (some ⟨b9, o9, none⟩) ds.length cd2) x w13.heap.size j _ w14
            ((HND2.out.below (fun q hq => hq.2.1) hb1114).mono (fun q hq => ⟨hq.1, by omega, by omega, hq.2.2⟩)) (fun q hq => ⟨hq.2.2.1, hq.2.2.2⟩) g13 ⟨by omega, by omega, by omega, fun e => by have := (HOW.out _ e.symm).2; omega⟩
            (tChg_mk HX.out (HN14.out.sl.keep (fun q hq => ⟨by omega, by omega, hq.2, fun e => by have := (HOW.out _ e.symm).2; omega⟩) (SameOn.refl _ _))) (by omega) (by omega) (by omega))
          clear hW5 g13 hb1114
          with_reducible refine HINS.out.mono ?_
          clear HINS
          rintro r w15 ⟨v15, rfl, hs15, hg15⟩
          obtain ⟨a15, c15, _, _, rfl, -⟩ := id hs15
          have hpl : (ds.take j ++ x :: ds.drop j).length = (putP ds x).length := by rw [HPUT.out]
          rw [HPUT.out] at hs15
          rw [hpl]
          have hown := HOW.out
          have hz14 := HW5.out.size
          have hz15 := hg15.size
          have HGE := Lib.hid hg15
          have hbl15 : Below w.heap.size w w15 := ((HB12.out.trans (HBZ.out.mono HB12.out.size)).trans (HW5.out.mono (bl_trans HB12.out HBZ.out).size)).grown hg15 (by have := (bl_trans (bl_trans HB12.out HBZ.out) HW5.out).size; exact this) (fun q hq => by have := (hown q hq).1; omega)
          have gB15 : BB w11.heap.size (.slice ae2 es9.length ce2) (.slice (some ⟨b9, o9, none⟩) ds.length cd2) w15 := (hg15.block _ (by omega) (fun e => by have := (hown _ e.symm).2; omega)).trans ((HW5.out.block _ (by omega)).trans HGZ.out)
          have g315 : BB (w.heap.size + 3) (.slice none 0 0) (.slice none 0 0) w15 := (hg15.block _ (by omega) (fun e => by have := (hown _ e.symm).1; omega)).trans ((HW5.out.block _ (by omega)).trans HYZ.out.b3)
          have hse : SlIs (tEnt 101) (fun q => w.heap.size + 4 ≤ q ∧ q < w11.heap.size ∧ q < m) w15 (.slice ae2 es9.length ce2) es9 := HSE.out.keep (fun _ h => h) (fun q hq => (hg15.block q (by omega) (fun e => by have := (hown _ e.symm).1; omega)).trans ((HW5.out.block q (by omega)).trans ((HBZ.out.block q (by omega)).trans (HBO.out.block q hq.2.1))))
          have HSE15 := Lib.hid hse
          have HSD15 := Lib.hid hs15
          have HB15 := Lib.hid hbl15
          have HG15 := Lib.hid gB15
          have HT15 := Lib.hid g315
          obtain ⟨r0, r1, rf⟩ := blk2 gB15
          obtain ⟨s0, s1, sf⟩ := blk2 g315
          have s0' : w15.cell? ⟨w.heap.size + 1 + 1 + 1, 0, none⟩ = some (.slice none 0 0) := s0
          have s1' : w15.cell? ⟨w.heap.size + 1 + 1 + 1, 1, none⟩ = some (.slice none 0 0) := s1
          have sf' : ∀ q, w15.frozen? ⟨w.heap.size + 1 + 1 + 1, q, none⟩ = false := sf
          have hl15 : w11.heap.size < w15.heap.size := by omega
          have hl16 : w.heap.size + 1 + 1 + 1 < w15.heap.size := by omega
          have hl17 : w.heap.size + 1 + 1 + 1 ≠ w11.heap.size := by omega
          clear hs15 hg15 hbl15 gB15 g315 hse s0 s1 sf
          refine hK _ _ ?_
          clear hK K
          (try simp only [List.getElem_toArray, List.getElem_cons_succ, List.getElem_cons_zero])
          (try simp only [Act.put])
          (try simp only [List.setIfInBounds_toArray])
          (repeat (first | simp only [List.set_cons_succ] | simp only [List.set_cons_zero]))
          refine wpAny_ready (rs := [7]) (by kernel_rfl) (by simp) ?_
          refine AllReady.cons rfl (fun K hK => ?_) AllReady.nil
          rw [if_pos (show _ = true by kernel_rfl)]
          go_simp
          refine hK _ _ ?_
          clear hK K
          refine wpAny_ready (rs := [8]) (by kernel_rfl) (by simp) ?_
          refine AllReady.cons rfl (fun K hK => ?_) AllReady.nil
          rw [if_pos (show _ = true by kernel_rfl)]
          go_simp
          refine hK _ _ ?_
          clear hK K
          refine wpAny_done (by kernel_rfl) ?_ _
          go_wp2
          have HT16 := Lib.hid (show BB (w.heap.size + 3) (.slice none 0 0) (.slice none 0 0) (w15.setCell ⟨w11.heap.size, 1, none⟩ (.slice a15 (putP ds x).length c15)) from (Below.heap_setCell _ _ _ _ (by simp only; omega)).trans HT15.out)
          have HB16 := Lib.hid (show Below w.heap.size w (w15.setCell ⟨w11.heap.size, 1, none⟩ (.slice a15 (putP ds x).length c15)) from bl_set HB15.out _ (by simp only; omega))
          have HSE16 := Lib.hid (show SlIs (tEnt 101) (fun q => w.heap.size + 4 ≤ q ∧ q < w11.heap.size) (w15.setCell ⟨w11.heap.size, 1, none⟩ (.slice a15 (putP ds x).length c15)) (.slice ae2 es9.length ce2) es9 from HSE15.out.keep (fun q hq => ⟨hq.1, hq.2.1⟩) (fun q hq => Below.heap_setCell _ _ _ _ (by simp only; omega)))
          have HSD16 := Lib.hid (show SlIs (tChg eL) (fun q => w.heap.size + 4 ≤ q ∧ q < w15.heap.size) (w15.setCell ⟨w11.heap.size, 1, none⟩ (.slice a15 (putP ds x).length c15)) (.slice a15 (putP ds x).length c15) (putP ds x) from HSD15.out.keep (fun q hq => ⟨by rcases hq.1 with q1 | q1 | q1 <;> first | omega | (have := (hown _ q1.symm).1; omega), hq.2⟩) (fun q hq => Below.heap_setCell _ _ _ _ (by
            rcases hq.1 with q1 | q1 | q1
            · exact q1.2.1
            · simp only; omega
            · have := (hown _ q1.symm).2; simp only; omega)))
          have hz16 : w15.heap.size = (w15.setCell ⟨w11.heap.size, 1, none⟩ (.slice a15 (putP ds x).length c15)).heap.size := by simp
          clear r0 r1 rf s0' s1' sf' HSE15 HSD15 HB15 HG15 HT15 HGE
          generalize w15.setCell ⟨w11.heap.size, 1, none⟩ (.slice a15 (putP ds x).length c15) = w16 at *
          have g5 : ((w16.setCell ⟨w.heap.size + 1 + 1 + 1, 0, none⟩ (.slice ae2 es9.length ce2)).setCell ⟨w.heap.size + 1 + 1 + 1, 1, none⟩ (.slice a15 (putP ds x).length c15)).heap[w.heap.size + 1 + 1 + 1]? = some (.cells #[(.slice ae2 es9.length ce2), (.slice a15 (putP ds x).length c15)] 70 (0, 0)) := heap_setCell_same _ _ _ _ _ _ (heap_setCell_same _ _ _ _ _ _ HT16.out)
          have b5 : Below w.heap.size w ((w16.setCell ⟨w.heap.size + 1 + 1 + 1, 0, none⟩ (.slice ae2 es9.length ce2)).setCell ⟨w.heap.size + 1 + 1 + 1, 1, none⟩ (.slice a15 (putP ds x).length c15)) := bl_set (bl_set HB16.out _ (by simp only; omega)) _ (by simp only; omega)
          have hoth : ∀ q, w.heap.size + 4 ≤ q → ((w16.setCell ⟨w.heap.size + 1 + 1 + 1, 0, none⟩ (.slice ae2 es9.length ce2)).setCell ⟨w.heap.size + 1 + 1 + 1, 1, none⟩ (.slice a15 (putP ds x).length c15)).heap[q]? = w16.heap[q]? := fun q hq => (Below.heap_setCell _ _ _ _ (by simp only; omega)).trans (Below.heap_setCell _ _ _ _ (by simp only; omega))
          have hz17 : w16.heap.size = ((w16.setCell ⟨w.heap.size + 1 + 1 + 1, 0, none⟩ (.slice ae2 es9.length ce2)).setCell ⟨w.heap.size + 1 + 1 + 1, 1, none⟩ (.slice a15 (putP ds x).length c15)).heap.size := by simp
          obtain ⟨k0, k1, -⟩ := blk2 g5
          generalize (w16.setCell ⟨w.heap.size + 1 + 1 + 1, 0, none⟩ (.slice ae2 es9.length ce2)).setCell ⟨w.heap.size + 1 + 1 + 1, 1, none⟩ (.slice a15 (putP ds x).length c15) = wf at *
          refine bodyPost_ret (v := .tuple #[.agg #[(.slice ae2 es9.length ce2), (.slice a15 (putP ds x).length c15)], .int .i64 0]) (by simp [results, Tryz.results21, go_sem, k0, k1]) rfl ?_
          rw [HR.out]
          exact ⟨(.slice ae2 es9.length ce2), (.slice a15 (putP ds x).length c15), rfl, HSE16.out.keep (fun q hq => ⟨fun _ => by omega, by omega⟩) (fun q hq => hoth q hq.1), HSD16.out.keep (fun q hq => ⟨fun _ => by omega, by omega⟩) (fun q hq => hoth q hq.1), b5, fun h => absurd rfl h⟩
      · have hjd : decide ((j : Int) < (ds.length : Int)) = false := by simp; omega
        clear hdr hvq
        go_wp2_with (go_quiet (fail))
        have HBZ := Lib.hid (bl_drewN HBW.out nq)
        have HPUT := Lib.hid (put_none (l := ds) (x := x) (k := j) (by omega) (fun y hy e => by
          obtain ⟨q, hq, rfl⟩ := List.getElem_of_mem hy
          exact HF3.out q hq e) (fun q hq hlt => HT.out q hq hlt) (fun h => absurd h hlt2))
        generalize (wr.drewN nq) = wz at HBZ ⊢
        have hBZ := HBZ.out
        have gz : BB w11.heap.size (.slice ae2 es9.length ce2) (.slice ad2 ds.length cd2) wz := (hBZ.block _ (lt_of_heap HG12.out)).trans HG12.out
        have yz : AW w.heap.size A (.slice ae es.length ce) (.slice ad ds.length cd) x (.slice xa x.ls.length xc) wz := HY12.out.step hBZ (lt_of_heap HY12.out.b3)
        have HGZ := Lib.hid gz
        have HYZ := Lib.hid yz
        have hzz := hBZ.size
        have HXK := Lib.hid (show ∀ w', Below wz.heap.size wz w' → w'.cell? ⟨w11.heap.size, 1, none⟩ = some (.slice ad2 ds.length cd2) from fun w' hw' => (blk2 ((hw'.block _ (lt_of_heap HGZ.out)).trans HGZ.out)).2.1)
        have HX7 := Lib.hid (show ∀ w', Below wz.heap.size wz w' → w'.cell? ⟨w.heap.size + 1 + 1, 0, none⟩ = some (.string x.key) ∧ w'.cell? ⟨w.heap.size + 1 + 1, 1, none⟩ = some (.string x.veh) ∧ w'.cell? ⟨w.heap.size + 1 + 1, 2, none⟩ = some (.string x.sys) ∧ w'.cell? ⟨w.heap.size + 1 + 1, 3, none⟩ = some (.int .i64 x.cls) ∧ w'.cell? ⟨w.heap.size + 1 + 1, 4, none⟩ = some (.int .i64 x.tm) ∧ w'.cell? ⟨w.heap.size + 1 + 1, 5, none⟩ = some (.slice xa x.ls.length xc) ∧ w'.cell? ⟨w.heap.size + 1 + 1, 6, none⟩ = some (.int .i64 x.c) from fun w' hw' => by
          obtain ⟨z0, z1, z2, z3, z4, z5, z6, -⟩ := blk7 ((hw'.block _ (lt_of_heap HYZ.out.b2)).trans HYZ.out.b2)
          exact ⟨z0, z1, z2, z3, z4, z5, z6⟩)
        have HCC := Lib.hid (show ∀ W, Below wz.heap.size wz W → Calls Tryz.prog 52 #[.agg #[.string x.key, .string x.veh, .string x.sys, .int .i64 x.cls, .int .i64 x.tm, .slice xa x.ls.length xc, .int .i64 x.c]] W fun e w' => ∃ h', e = .returned (.agg #[.string x.key, .string x.veh, .string x.sys, .int .i64 x.cls, .int .i64 x.tm, h', .int .i64 x.c]) ∧ NewL tSI 140 W.heap.size w' h' x.ls ∧ Below W.heap.size W w' from fun W hW => cloneC_any x _ W (HV.out.step (bl_trans (bl_trans HB12.out HBZ.out) hW)) (by have := HXC.out.ls; omega))
        clear gz yz c0 c1 x0' HT HDR
        refine wp_region_E 6 (fun w' => Below wz.heap.size wz w') (by kernel_rfl) ((by (repeat (first | (with_reducible exact Below.refl _ _) | (with_reducible apply bl_drewN) | (with_reducible apply bl_alloc) | (with_reducible apply Below.drew))); done)) (fun hHeld => ?_)
        refine wpE_take (i := 0) (v := ?_) rfl (by kernel_rfl) (fun _ _ _ h => h) (Or.inl ⟨by kernel_rfl, ?_⟩) (by assumption) ?_
        rotate_left
        focus (intro w9 hS9; (try dsimp only at hS9); go_simp; (try with_reducible rfl))
        (try simp only [List.getElem_toArray, List.getElem_cons_zero])
        (try simp only [Act.put])
        (try simp only [List.setIfInBounds_toArray])
        (repeat (first | simp only [List.set_cons_succ] | simp only [List.set_cons_zero]))
        refine wpE_take (i := 1) (v := ?_) rfl (by kernel_rfl) (fun _ _ _ h => h) (Or.inl ⟨by kernel_rfl, ?_⟩) (by assumption) ?_
        rotate_left
        focus (intro w9 hS9; have z0 := HXK.out w9 hS9; clear hS9; go_simp; (try with_reducible rfl))
        (try simp only [List.getElem_toArray, List.getElem_cons_succ, List.getElem_cons_zero])
        (try simp only [Act.put])
        (try simp only [List.setIfInBounds_toArray])
        (repeat (first | simp only [List.set_cons_succ] | simp only [List.set_cons_zero]))
        refine wpE_take (i := 2) (v := ?_) rfl (by kernel_rfl) (fun _ _ _ h => h) (Or.inl ⟨by kernel_rfl, ?_⟩) (by assumption) ?_
        rotate_left
        focus (intro w9 hS9; (try dsimp only at hS9); go_simp; (try with_reducible rfl))
        (try simp only [List.getElem_toArray, List.getElem_cons_succ, List.getElem_cons_zero])
        (try simp only [Act.put])
        (try simp only [List.setIfInBounds_toArray])
        (repeat (first | simp only [List.set_cons_succ] | simp only [List.set_cons_zero]))
        refine wpE_take (i := 3) (v := ?_) rfl (by kernel_rfl) (fun _ _ _ h => h) (Or.inl ⟨by kernel_rfl, ?_⟩) (by assumption) ?_
        rotate_left
        focus (intro w9 hS9; obtain ⟨z0, z1, z2, z3, z4, z5, z6⟩ := HX7.out w9 hS9; clear hS9; go_simp; (try with_reducible rfl))
        (try simp only [List.getElem_toArray, List.getElem_cons_succ, List.getElem_cons_zero])
        (try simp only [Act.put])
        (try simp only [List.setIfInBounds_toArray])
        (repeat (first | simp only [List.set_cons_succ] | simp only [List.set_cons_zero]))
        refine wpE_ready (rs := [4]) (by kernel_rfl) (by kernel_rfl) ?_
        refine AllReadyE.cons rfl (fun K hK => ?_) AllReadyE.nil
        go_simp
        with_reducible refine (HCC.out _ (by (repeat (first | (with_reducible exact Below.refl _ _) | (with_reducible apply bl_drewN) | (with_reducible apply bl_alloc) | (with_reducible apply Below.drew))); done)).mono ?_
        rintro r w13 ⟨h', rfl, hn5, hb5⟩
        obtain ⟨a5, c5, rfl, -⟩ := hn5.form
        have HN5 := Lib.hid (show NewL tSI 140 wz.heap.size w13 (.slice a5 x.ls.length c5) x.ls from hn5)
        have HB5 := Lib.hid (show Below wz.heap.size wz w13 from bl_trans (by (repeat (first | (with_reducible exact Below.refl _ _) | (with_reducible apply bl_drewN) | (with_reducible apply bl_alloc) | (with_reducible apply Below.drew))); done) hb5)
        clear hn5 hb5 HCC
        clear hHeld
        refine hK.out _ _ (HB5.out) (fun hHeld => ?_)
        clear hK K
        refine wpE_ready (rs := [5]) (by kernel_rfl) (by kernel_rfl) ?_
        refine AllReadyE.cons rfl (fun K hK => ?_) AllReadyE.nil
        go_simp
        clear hHeld
        refine hK.out _ _ (bl_trans HB5.out (by (repeat (first | (with_reducible exact Below.refl _ _) | (with_reducible apply bl_drewN) | (with_reducible apply bl_alloc) | (with_reducible apply Below.drew))); done)) (fun hHeld => ?_)
        clear hK K
        clear hHeld
        refine wpE_out (by kernel_rfl) ?_
        refine wpAny_ready (rs := [6]) (by kernel_rfl) (by simp) ?_
        refine AllReady.cons rfl (fun K hK => ?_) AllReady.nil
        rw [if_pos (show _ = true by kernel_rfl)]
        go_simp
        have hW5 := bl_alloc HB5.out (.cells #[.string x.key, .string x.veh, .string x.sys, .int .i64 x.cls, .int .i64 x.tm, .slice a5 x.ls.length c5, .int .i64 x.c] 49)
        have g13 := heap_alloc_new w13 (.cells #[.string x.key, .string x.veh, .string x.sys, .int .i64 x.cls, .int .i64 x.tm, .slice a5 x.ls.length c5, .int .i64 x.c] 49)
        have hz13 : (w13.alloc (.cells #[.string x.key, .string x.veh, .string x.sys, .int .i64 x.cls, .int .i64 x.tm, .slice a5 x.ls.length c5, .int .i64 x.c] 49)).heap.size = w13.heap.size + 1 := by simp
        have HN14 := Lib.hid (HN5.out.below (bl_alloc (Below.refl w13.heap.size w13) (.cells #[.string x.key, .string x.veh, .string x.sys, .int .i64 x.cls, .int .i64 x.tm, .slice a5 x.ls.length c5, .int .i64 x.c] 49)))
        generalize w13.alloc (.cells #[.string x.key, .string x.veh, .string x.sys, .int .i64 x.cls, .int .i64 x.tm, .slice a5 x.ls.length c5, .int .i64 x.c] 49) = w14 at hW5 g13 hz13 HN14 ⊢
        have HW5 := Lib.hid hW5
        have hs5 := HB5.out.size
        have HOW := Lib.hid (HND2.out.own_lt)
        have hb1114 : Below w11.heap.size w11 w14 := bl_trans (bl_trans HBO.out HBZ.out) hW5
        have HINS := Lib.hid (insert_any m (fun q => m ≤ q ∧ q ≠ w11.heap.size ∧ q < w14.heap.size ∧ some q ≠ (Value.slice ad2 ds.length cd2).ownBlock) ds (.slice ad2 ds.length cd2) x w13.heap.size j _ w14
          ((HND2.out.below (fun q hq => hq.2.1) hb1114).mono (fun q hq => ⟨hq.1, by omega, by omega, hq.2.2⟩)) (fun q hq => ⟨hq.2.2.1, hq.2.2.2⟩) g13 ⟨by omega, by omega, by omega, fun e => by have := (HOW.out _ e.symm).2; omega⟩
          (tChg_mk HX.out (HN14.out.sl.keep (fun q hq => ⟨by omega, by omega, hq.2, fun e => by have := (HOW.out _ e.symm).2; omega⟩) (SameOn.refl _ _))) (by omega) (by omega) (by omega))
        clear hW5 g13 hb1114
        with_reducible refine HINS.out.mono ?_
        clear HINS
        rintro r w15 ⟨v15, rfl, hs15, hg15⟩
        obtain ⟨a15, c15, _, _, rfl, -⟩ := id hs15
        have hpl : (ds.take j ++ x :: ds.drop j).length = (putP ds x).length := by rw [HPUT.out]
        rw [HPUT.out] at hs15
        rw [hpl]
        have hown := HOW.out
        have hz14 := HW5.out.size
        have hz15 := hg15.size
        have HGE := Lib.hid hg15
        have hbl15 : Below w.heap.size w w15 := ((HB12.out.trans (HBZ.out.mono HB12.out.size)).trans (HW5.out.mono (bl_trans HB12.out HBZ.out).size)).grown hg15 (by have := (bl_trans (bl_trans HB12.out HBZ.out) HW5.out).size; exact this) (fun q hq => by have := (hown q hq).1; omega)
        have gB15 : BB w11.heap.size (.slice ae2 es9.length ce2) (.slice ad2 ds.length cd2) w15 := (hg15.block _ (by omega) (fun e => by have := (hown _ e.symm).2; omega)).trans ((HW5.out.block _ (by omega)).trans HGZ.out)
        have g315 : BB (w.heap.size + 3) (.slice none 0 0) (.slice none 0 0) w15 := (hg15.block _ (by omega) (fun e => by have := (hown _ e.symm).1; omega)).trans ((HW5.out.block _ (by omega)).trans HYZ.out.b3)
        have hse : SlIs (tEnt 101) (fun q => w.heap.size + 4 ≤ q ∧ q < w11.heap.size ∧ q < m) w15 (.slice ae2 es9.length ce2) es9 := HSE.out.keep (fun _ h => h) (fun q hq => (hg15.block q (by omega) (fun e => by have := (hown _ e.symm).1; omega)).trans ((HW5.out.block q (by omega)).trans ((HBZ.out.block q (by omega)).trans (HBO.out.block q hq.2.1))))
        have HSE15 := Lib.hid hse
        have HSD15 := Lib.hid hs15
        have HB15 := Lib.hid hbl15
        have HG15 := Lib.hid gB15
        have HT15 := Lib.hid g315
        obtain ⟨r0, r1, rf⟩ := blk2 gB15
        obtain ⟨s0, s1, sf⟩ := blk2 g315
        have s0' : w15.cell? ⟨w.heap.size + 1 + 1 + 1, 0, none⟩ = some (.slice none 0 0) := s0
        have s1' : w15.cell? ⟨w.heap.size + 1 + 1 + 1, 1, none⟩ = some (.slice none 0 0) := s1
        have sf' : ∀ q, w15.frozen? ⟨w.heap.size + 1 + 1 + 1, q, none⟩ = false := sf
        have hl15 : w11.heap.size < w15.heap.size := by omega
        have hl16 : w.heap.size + 1 + 1 + 1 < w15.heap.size := by omega
        have hl17 : w.heap.size + 1 + 1 + 1 ≠ w11.heap.size := by omega
        clear hs15 hg15 hbl15 gB15 g315 hse s0 s1 sf
        refine hK _ _ ?_
        clear hK K
        (try simp only [List.getElem_toArray, List.getElem_cons_succ, List.getElem_cons_zero])
        (try simp only [Act.put])
        (try simp only [List.setIfInBounds_toArray])
        (repeat (first | simp only [List.set_cons_succ] | simp only [List.set_cons_zero]))
        refine wpAny_ready (rs := [7]) (by kernel_rfl) (by simp) ?_
        refine AllReady.cons rfl (fun K hK => ?_) AllReady.nil
        rw [if_pos (show _ = true by kernel_rfl)]
        go_simp
        refine hK _ _ ?_
        clear hK K
        refine wpAny_ready (rs := [8]) (by kernel_rfl) (by simp) ?_
        refine AllReady.cons rfl (fun K hK => ?_) AllReady.nil
        rw [if_pos (show _ = true by kernel_rfl)]
        go_simp
        refine hK _ _ ?_
        clear hK K
        refine wpAny_done (by kernel_rfl) ?_ _
        go_wp2
        have HT16 := Lib.hid (show BB (w.heap.size + 3) (.slice none 0 0) (.slice none 0 0) (w15.setCell ⟨w11.heap.size, 1, none⟩ (.slice a15 (putP ds x).length c15)) from (Below.heap_setCell _ _ _ _ (by simp only; omega)).trans HT15.out)
        have HB16 := Lib.hid (show Below w.heap.size w (w15.setCell ⟨w11.heap.size, 1, none⟩ (.slice a15 (putP ds x).length c15)) from bl_set HB15.out _ (by simp only; omega))
        have HSE16 := Lib.hid (show SlIs (tEnt 101) (fun q => w.heap.size + 4 ≤ q ∧ q < w11.heap.size) (w15.setCell ⟨w11.heap.size, 1, none⟩ (.slice a15 (putP ds x).length c15)) (.slice ae2 es9.length ce2) es9 from HSE15.out.keep (fun q hq => ⟨hq.1, hq.2.1⟩) (fun q hq => Below.heap_setCell _ _ _ _ (by simp only; omega)))
        have HSD16 := Lib.hid (show SlIs (tChg eL) (fun q => w.heap.size + 4 ≤ q ∧ q < w15.heap.size) (w15.setCell ⟨w11.heap.size, 1, none⟩ (.slice a15 (putP ds x).length c15)) (.slice a15 (putP ds x).length c15) (putP ds x) from HSD15.out.keep (fun q hq => ⟨by rcases hq.1 with q1 | q1 | q1 <;> first | omega | (have := (hown _ q1.symm).1; omega), hq.2⟩) (fun q hq => Below.heap_setCell _ _ _ _ (by
          rcases hq.1 with q1 | q1 | q1
          · exact q1.2.1
          · simp only; omega
          · have := (hown _ q1.symm).2; simp only; omega)))
        have hz16 : w15.heap.size = (w15.setCell ⟨w11.heap.size, 1, none⟩ (.slice a15 (putP ds x).length c15)).heap.size := by simp
        clear r0 r1 rf s0' s1' sf' HSE15 HSD15 HB15 HG15 HT15 HGE
        generalize w15.setCell ⟨w11.heap.size, 1, none⟩ (.slice a15 (putP ds x).length c15) = w16 at *
        have g5 : ((w16.setCell ⟨w.heap.size + 1 + 1 + 1, 0, none⟩ (.slice ae2 es9.length ce2)).setCell ⟨w.heap.size + 1 + 1 + 1, 1, none⟩ (.slice a15 (putP ds x).length c15)).heap[w.heap.size + 1 + 1 + 1]? = some (.cells #[(.slice ae2 es9.length ce2), (.slice a15 (putP ds x).length c15)] 70 (0, 0)) := heap_setCell_same _ _ _ _ _ _ (heap_setCell_same _ _ _ _ _ _ HT16.out)
        have b5 : Below w.heap.size w ((w16.setCell ⟨w.heap.size + 1 + 1 + 1, 0, none⟩ (.slice ae2 es9.length ce2)).setCell ⟨w.heap.size + 1 + 1 + 1, 1, none⟩ (.slice a15 (putP ds x).length c15)) := bl_set (bl_set HB16.out _ (by simp only; omega)) _ (by simp only; omega)
        have hoth : ∀ q, w.heap.size + 4 ≤ q → ((w16.setCell ⟨w.heap.size + 1 + 1 + 1, 0, none⟩ (.slice ae2 es9.length ce2)).setCell ⟨w.heap.size + 1 + 1 + 1, 1, none⟩ (.slice a15 (putP ds x).length c15)).heap[q]? = w16.heap[q]? := fun q hq => (Below.heap_setCell _ _ _ _ (by simp only; omega)).trans (Below.heap_setCell _ _ _ _ (by simp only; omega))
        have hz17 : w16.heap.size = ((w16.setCell ⟨w.heap.size + 1 + 1 + 1, 0, none⟩ (.slice ae2 es9.length ce2)).setCell ⟨w.heap.size + 1 + 1 + 1, 1, none⟩ (.slice a15 (putP ds x).length c15)).heap.size := by simp
        obtain ⟨k0, k1, -⟩ := blk2 g5
        generalize (w16.setCell ⟨w.heap.size + 1 + 1 + 1, 0, none⟩ (.slice ae2 es9.length ce2)).setCell ⟨w.heap.size + 1 + 1 + 1, 1, none⟩ (.slice a15 (putP ds x).length c15) = wf at *
        refine bodyPost_ret (v := .tuple #[.agg #[(.slice ae2 es9.length ce2), (.slice a15 (putP ds x).length c15)], .int .i64 0]) (by simp [results, Tryz.results21, go_sem, k0, k1]) rfl ?_
        rw [HR.out]
        exact ⟨(.slice ae2 es9.length ce2), (.slice a15 (putP ds x).length c15), rfl, HSE16.out.keep (fun q hq => ⟨fun _ => by omega, by omega⟩) (fun q hq => hoth q hq.1), HSD16.out.keep (fun q hq => ⟨fun _ => by omega, by omega⟩) (fun q hq => hoth q hq.1), b5, fun h => absurd rfl h⟩
  · have hkd1 : chkC ds[k] = 0 := HBK.out.chk _ (List.getElem_mem hk)
    have hyc : COk ds[k] := HBK.out.cok _ (List.getElem_mem hk)
    have hycf : 0 ≤ ds[k].c ∧ ds[k].c ≤ 1125899906842624 := ⟨(chk_facts hkd1).2.2.2.2.2.2.1, (chk_facts hkd1).2.2.2.2.2.2.2.1⟩
    rw [f1]
    have HPS := Lib.hid (show postsA c ds x = moveP c (moveP c [] ds[k] (-ds[k].c)) x x.c by unfold postsA; rw [f2])
    have HKEY := Lib.hid f3
    have hcf : 0 ≤ x.c ∧ x.c ≤ 1125899906842624 := ⟨HCF.out.2.2.2.2.2.2.1, HCF.out.2.2.2.2.2.2.2.1⟩
    obtain ⟨hao, -, hbd, hyok, hv9, hsl9, k0, k1, k2, k3, k4, k5, k6⟩ := HDO.out w7 (.of_below HB7.out) k hk
    subst hao
    have HYK := Lib.hid (show ∃ y, ds[k] = y from ⟨_, rfl⟩)
    obtain ⟨y, hy⟩ := HYK.out
    rw [hy] at k0 k1 k2 k3 k4 k6 hycf hyc HPS HKEY hsl9 hyok
    have HY := Lib.hid hy
    obtain ⟨ya, yc, _, _, rfl, -⟩ := id hsl9
    have i0 : (0 : Int) ≤ (k : Int) := by omega
    have i1 : (k : Int) < (ds.length : Int) := by omega
    have hco : decide (y.c < 0) = false := by simp; omega
    have HX1 := Lib.hid (show ∀ W, Calls Tryz.prog 33 #[.int .i64 y.c] W fun e w' => e = .returned (.bool true) ∧ W = w' from fun W => by rw [← fitsM_yes (n := y.c) (by omega) (by omega)]; exact mFits_any _ W)
    obtain ⟨d0, d1, -⟩ := blk2 HY7.out.b1
    clear hy HYK f1 f2 f3 f4 hkd1 hsl9
    go_upto_region 11 with (go_at_call 33; with_reducible refine (HX1.out _).mono ?_; rintro e w1 ⟨rfl, rfl⟩)
    have HLC := Lib.hid (show ∀ w', Below w7.heap.size w7 w' → Sem.run Tryz.prog (loadCellsFrom ⟨w.heap.size, 0, none⟩ 0 25 #[]) w' = .ok A w' from fun w' hw' => load_blk ((hw'.block _ (lt_of_heap HY7.out.b0)).trans HY7.out.b0) HA.out.size Tryz.prog)
    have HLD := Lib.hid (show ∀ w', Below w7.heap.size w7 w' → w'.cell? ⟨w.heap.size + 1, 1, none⟩ = some (.slice (some ⟨bd, od, none⟩) ds.length cd) from fun w' hw' => (blk2 ((hw'.block _ (lt_of_heap HY7.out.b1)).trans HY7.out.b1)).2.1)
    have hbd7 : bd < w7.heap.size := Nat.lt_of_lt_of_le hbd HB7.out.size
    have HL7 := Lib.hid (show ∀ w', Below w7.heap.size w7 w' → w'.cell? ⟨bd, od + k * 7, none⟩ = some (.string y.key) ∧ w'.cell? ⟨bd, od + k * 7 + 1, none⟩ = some (.string y.veh) ∧ w'.cell? ⟨bd, od + k * 7 + 2, none⟩ = some (.string y.sys) ∧ w'.cell? ⟨bd, od + k * 7 + 3, none⟩ = some (.int .i64 y.cls) ∧ w'.cell? ⟨bd, od + k * 7 + 4, none⟩ = some (.int .i64 y.tm) ∧ w'.cell? ⟨bd, od + k * 7 + 5, none⟩ = some (.slice ya y.ls.length yc) ∧ w'.cell? ⟨bd, od + k * 7 + 6, none⟩ = some (.int .i64 y.c) from fun w' hw' =>
      ⟨(hw'.cell (p := ⟨bd, od + k * 7, none⟩) hbd7).trans k0, (hw'.cell (p := ⟨bd, od + k * 7 + 1, none⟩) hbd7).trans k1, (hw'.cell (p := ⟨bd, od + k * 7 + 2, none⟩) hbd7).trans k2, (hw'.cell (p := ⟨bd, od + k * 7 + 3, none⟩) hbd7).trans k3, (hw'.cell (p := ⟨bd, od + k * 7 + 4, none⟩) hbd7).trans k4, (hw'.cell (p := ⟨bd, od + k * 7 + 5, none⟩) hbd7).trans k5, (hw'.cell (p := ⟨bd, od + k * 7 + 6, none⟩) hbd7).trans k6⟩)
    have HL6 := Lib.hid (show ∀ w', Below w7.heap.size w7 w' → w'.cell? ⟨bd, od + k * 7 + 6, none⟩ = some (.int .i64 y.c) from fun w' hw' => (HL7.out w' hw').2.2.2.2.2.2)
    have hneg : IntKind.i64.wrap (-y.c) = -y.c := wrap_in (by omega) (by omega)
    have HMV1 := Lib.hid (show ∀ W, Below w7.heap.size w7 W → _ from fun W hW => move_any c A va y ya y.ls.length yc w7.heap.size gd kk x.tm [] (.slice none 0 0) (-y.c) 0 W (HDW.out.below hW) hW.size (by simp) (nil_amt 0) (by omega) (by omega) (by omega) HA.out (HC.out.step (bl_trans HB7.out hW)) HK.out hyc.veh hyc.sys)
    clear k0 k1 k2 k3 k4 k5 k6 d0 d1
    refine wp_region_E 13 (fun w' => Below w7.heap.size w7 w') (by kernel_rfl) ((by (repeat (first | (with_reducible exact Below.refl _ _) | (with_reducible apply bl_drewN) | (with_reducible apply bl_alloc) | (with_reducible apply Below.drew))); done)) (fun hHeld => ?_)
    refine wpE_take (i := 0) (v := ?_) rfl (by kernel_rfl) (fun _ _ _ h => h) (Or.inl ⟨by kernel_rfl, ?_⟩) (by assumption) ?_
    rotate_left
    focus (intro w9 hS9; refine exec_loadA (t := 46) (x := Operand.tmp 3) (p := ⟨w.heap.size, 0, none⟩) (A := A) ?_ Tryz.isAgg46 Tryz.sizeOf46 ?_ (HLC.out w9 hS9); rfl; go_simp; (try rfl))
    (try simp only [List.getElem_toArray, List.getElem_cons_zero])
    (try simp only [Act.put])
    (try simp only [List.setIfInBounds_toArray])
    (repeat (first | simp only [List.set_cons_succ] | simp only [List.set_cons_zero]))
    refine wpE_take (i := 1) (v := ?_) rfl (by kernel_rfl) (fun _ _ _ h => h) (Or.inl ⟨by kernel_rfl, ?_⟩) (by assumption) ?_
    rotate_left
    focus (intro w9 hS9; (try dsimp only at hS9); go_simp; (try with_reducible rfl))
    (try simp only [List.getElem_toArray, List.getElem_cons_succ, List.getElem_cons_zero])
    (try simp only [Act.put])
    (try simp only [List.setIfInBounds_toArray])
    (repeat (first | simp only [List.set_cons_succ] | simp only [List.set_cons_zero]))
    refine wpE_take (i := 2) (v := ?_) rfl (by kernel_rfl) (fun _ _ _ h => h) (Or.inl ⟨by kernel_rfl, ?_⟩) (by assumption) ?_
    rotate_left
    focus (intro w9 hS9; have z0 := HLD.out w9 hS9; clear hS9; go_simp; (try with_reducible rfl))
    (try simp only [List.getElem_toArray, List.getElem_cons_succ, List.getElem_cons_zero])
    (try simp only [Act.put])
    (try simp only [List.setIfInBounds_toArray])
    (repeat (first | simp only [List.set_cons_succ] | simp only [List.set_cons_zero]))
    refine wpE_take (i := 3) (v := ?_) rfl (by kernel_rfl) (fun _ _ _ h => h) (Or.inl ⟨by kernel_rfl, ?_⟩) (by assumption) ?_
    rotate_left
    focus (intro w9 hS9; (try dsimp only at hS9); go_simp; (try with_reducible rfl))
    (try simp only [List.getElem_toArray, List.getElem_cons_succ, List.getElem_cons_zero])
    (try simp only [Act.put])
    (try simp only [List.setIfInBounds_toArray])
    (repeat (first | simp only [List.set_cons_succ] | simp only [List.set_cons_zero]))
    refine wpE_take (i := 4) (v := ?_) rfl (by kernel_rfl) (fun _ _ _ h => h) (Or.inl ⟨by kernel_rfl, ?_⟩) (by assumption) ?_
    rotate_left
    focus (intro w9 hS9; (try dsimp only at hS9); go_simp; (try with_reducible rfl))
    (try simp only [List.getElem_toArray, List.getElem_cons_succ, List.getElem_cons_zero])
    (try simp only [Act.put])
    (try simp only [List.setIfInBounds_toArray])
    (repeat (first | simp only [List.set_cons_succ] | simp only [List.set_cons_zero]))
    refine wpE_take (i := 5) (v := ?_) rfl (by kernel_rfl) (fun _ _ _ h => h) (Or.inl ⟨by kernel_rfl, ?_⟩) (by assumption) ?_
    rotate_left
    focus (intro w9 hS9; obtain ⟨z0, z1, z2, z3, z4, z5, z6⟩ := HL7.out w9 hS9; clear hS9; go_simp; (try with_reducible rfl))
    (try simp only [List.getElem_toArray, List.getElem_cons_succ, List.getElem_cons_zero])
    (try simp only [Act.put])
    (try simp only [List.setIfInBounds_toArray])
    (repeat (first | simp only [List.set_cons_succ] | simp only [List.set_cons_zero]))
    refine wpE_take (i := 6) (v := ?_) rfl (by kernel_rfl) (fun _ _ _ h => h) (Or.inl ⟨by kernel_rfl, ?_⟩) (by assumption) ?_
    rotate_left
    focus (intro w9 hS9; (try dsimp only at hS9); go_simp; (try with_reducible rfl))
    (try simp only [List.getElem_toArray, List.getElem_cons_succ, List.getElem_cons_zero])
    (try simp only [Act.put])
    (try simp only [List.setIfInBounds_toArray])
    (repeat (first | simp only [List.set_cons_succ] | simp only [List.set_cons_zero]))
    refine wpE_take (i := 7) (v := ?_) rfl (by kernel_rfl) (fun _ _ _ h => h) (Or.inl ⟨by kernel_rfl, ?_⟩) (by assumption) ?_
    rotate_left
    focus (intro w9 hS9; have z0 := HLD.out w9 hS9; clear hS9; go_simp; (try with_reducible rfl))
    (try simp only [List.getElem_toArray, List.getElem_cons_succ, List.getElem_cons_zero])
    (try simp only [Act.put])
    (try simp only [List.setIfInBounds_toArray])
    (repeat (first | simp only [List.set_cons_succ] | simp only [List.set_cons_zero]))
    refine wpE_take (i := 8) (v := ?_) rfl (by kernel_rfl) (fun _ _ _ h => h) (Or.inl ⟨by kernel_rfl, ?_⟩) (by assumption) ?_
    rotate_left
    focus (intro w9 hS9; (try dsimp only at hS9); go_simp; (try with_reducible rfl))
    (try simp only [List.getElem_toArray, List.getElem_cons_succ, List.getElem_cons_zero])
    (try simp only [Act.put])
    (try simp only [List.setIfInBounds_toArray])
    (repeat (first | simp only [List.set_cons_succ] | simp only [List.set_cons_zero]))
    refine wpE_take (i := 9) (v := ?_) rfl (by kernel_rfl) (fun _ _ _ h => h) (Or.inl ⟨by kernel_rfl, ?_⟩) (by assumption) ?_
    rotate_left
    focus (intro w9 hS9; (try dsimp only at hS9); go_simp; (try with_reducible rfl))
    (try simp only [List.getElem_toArray, List.getElem_cons_succ, List.getElem_cons_zero])
    (try simp only [Act.put])
    (try simp only [List.setIfInBounds_toArray])
    (repeat (first | simp only [List.set_cons_succ] | simp only [List.set_cons_zero]))
    refine wpE_take (i := 10) (v := ?_) rfl (by kernel_rfl) (fun _ _ _ h => h) (Or.inl ⟨by kernel_rfl, ?_⟩) (by assumption) ?_
    rotate_left
    focus (intro w9 hS9; (try dsimp only at hS9); go_simp; (try with_reducible rfl))
    (try simp only [List.getElem_toArray, List.getElem_cons_succ, List.getElem_cons_zero])
    (try simp only [Act.put])
    (try simp only [List.setIfInBounds_toArray])
    (repeat (first | simp only [List.set_cons_succ] | simp only [List.set_cons_zero]))
    refine wpE_take (i := 11) (v := ?_) rfl (by kernel_rfl) (fun _ _ _ h => h) (Or.inl ⟨by kernel_rfl, ?_⟩) (by assumption) ?_
    rotate_left
    focus (intro w9 hS9; have z0 := HL6.out w9 hS9; clear hS9; go_simp; (try with_reducible rfl))
    (try simp only [List.getElem_toArray, List.getElem_cons_succ, List.getElem_cons_zero])
    (try simp only [Act.put])
    (try simp only [List.setIfInBounds_toArray])
    (repeat (first | simp only [List.set_cons_succ] | simp only [List.set_cons_zero]))
    refine wpE_take (i := 12) (v := ?_) rfl (by kernel_rfl) (fun _ _ _ h => h) (Or.inl ⟨by kernel_rfl, ?_⟩) (by assumption) ?_
    rotate_left
    focus (intro w9 hS9; (try dsimp only at hS9); go_simp; (try with_reducible rfl))
    (try simp only [List.getElem_toArray, List.getElem_cons_succ, List.getElem_cons_zero])
    (try simp only [Act.put])
    (try simp only [List.setIfInBounds_toArray])
    (repeat (first | simp only [List.set_cons_succ] | simp only [List.set_cons_zero]))
    clear hHeld
    refine wpE_out (by kernel_rfl) ?_
    refine wpAny_ready (rs := [13]) (by kernel_rfl) (by simp) ?_
    refine AllReady.cons rfl (fun K hK => ?_) AllReady.nil
    rw [if_pos (show _ = true by kernel_rfl)]
    go_simp
    with_reducible refine (HMV1.out _ (Below.drew (Below.refl _ _))).mono ?_
    rintro r wm ⟨rfl, ⟨vm, hdm⟩, hkm⟩
    have HKM := Lib.hid (show DK w7.heap.size gd w7 wm from ⟨fun j hj => hkm.same j hj, (Below.drew (Below.refl _ _)).trans hkm.bel⟩)
    have HDM := Lib.hid hdm
    clear hkm hdm HLC HLD HL7 HL6 HMV1
    refine hK _ _ ?_
    clear hK K
    (try simp only [List.getElem_toArray, List.getElem_cons_succ, List.getElem_cons_zero])
    (try simp only [Act.put])
    (try simp only [List.setIfInBounds_toArray])
    (repeat (first | simp only [List.set_cons_succ] | simp only [List.set_cons_zero]))
    refine wpAny_done (by kernel_rfl) ?_ _
    have hgB := HDM.out.lt
    have HYM := Lib.hid (HY7.out.same fun j h1 h2 => HKM.out.same j ⟨by omega, by omega⟩)
    have HBM := Lib.hid (show Below w.heap.size w wm from HB7.out.trans (HKM.out.bel.mono (by omega)))
    have hs7m := HKM.out.bel.size
    have hml := moveP_len c [] y (-y.c)
    have HMV2 := Lib.hid (move_any c A va x xa x.ls.length xc w7.heap.size gd kk x.tm (moveP c [] y (-y.c)) vm x.c 2251799813685248 wm HDM.out hs7m (by simp only [List.length_nil] at hml; omega) ((moveP_amt (nil_amt 0) (by omega) (by omega) (by omega)).mono (by omega)) (by omega) (by omega) (by omega) HA.out (HC.out.step HBM.out) HK.out HXC.out.veh HXC.out.sys)
    have hld := load_blk HYM.out.b0 HA.out.size Tryz.prog
    obtain ⟨x0, x1, x2, x3, x4, x5, x6, -⟩ := blk7 HYM.out.b2
    have x0' : wm.cell? ⟨w.heap.size + 1 + 1, 0, none⟩ = some (.string x.key) := x0
    have x1' : wm.cell? ⟨w.heap.size + 1 + 1, 1, none⟩ = some (.string x.veh) := x1
    have x2' : wm.cell? ⟨w.heap.size + 1 + 1, 2, none⟩ = some (.string x.sys) := x2
    have x3' : wm.cell? ⟨w.heap.size + 1 + 1, 3, none⟩ = some (.int .i64 x.cls) := x3
    have x4' : wm.cell? ⟨w.heap.size + 1 + 1, 4, none⟩ = some (.int .i64 x.tm) := x4
    have x5' : wm.cell? ⟨w.heap.size + 1 + 1, 5, none⟩ = some (.slice xa x.ls.length xc) := x5
    have x6' : wm.cell? ⟨w.heap.size + 1 + 1, 6, none⟩ = some (.int .i64 x.c) := x6
    clear x0 x1 x2 x3 x4 x5 x6 hml
    go_wp2_with (first | (refine wpList_loadA _ rfl 46 rfl Tryz.isAgg46 Tryz.sizeOf46 rfl (by with_reducible assumption) ?_) | fail)
    with_reducible refine HMV2.out.mono ?_
    rintro r w8 ⟨rfl, ⟨v8, hd8⟩, hk8⟩
    clear x0' x1' x2' x3' x4' x5' x6' hld HMV2
    obtain ⟨a8, c8, rfl, -⟩ := hd8.own.form
    have HY8 := Lib.hid (HYM.out.same fun j h1 h2 => hk8.same j ⟨by omega, by omega⟩)
    have HB8 := Lib.hid (show Below w.heap.size w w8 from HBM.out.trans (hk8.bel.mono (by omega)))
    have hs78 := Nat.le_trans hs7m hk8.bel.size
    clear HYM HBM HDM HKM hs7m
    have hp4 : (postsA c ds x).length ≤ 4 := postsA_len c ds x
    rw [HPS.out] at hp4
    have HEN := Lib.hid (enter_any w7.heap.size es (.slice ae es.length ce) kk x.tm _ _ w8 hs78 (HE.out.keep (fun j (hj : j < w.heap.size) => Nat.lt_of_lt_of_le hj HB7.out.size) (.of_below HB8.out)) hd8.own (by have := HKS.out; unfold maxLen; omega) HX.out.tm HBK.out.es (by have := HBK.out.len; simp only at this; omega) hp4 (moveP_pos _ _ _ _))
    obtain ⟨e0, e1, e2, -⟩ := blk3 hd8.box
    obtain ⟨d0, d1, -⟩ := blk2 HY8.out.b1
    clear hd8 hk8 hp4
    go_wp2_with (fail)
    with_reducible refine HEN.out.mono ?_
    clear HEN
    rintro r w9 ⟨⟨ve9, rfl, hs9⟩, hb9⟩
    have HY9 := Lib.hid (HY8.out.step hb9 (by have := HY7.out.b3; have := lt_of_heap this; omega))
    have HB9 := Lib.hid (HB8.out.trans (hb9.mono HB7.out.size))
    obtain ⟨⟨es9, z9⟩, hen⟩ : ∃ r, enterL es kk x.tm (moveP c (moveP c [] y (-y.c)) x x.c) = r := ⟨_, rfl⟩
    rw [hen] at hs9 ⊢
    simp only at hs9 ⊢
    obtain ⟨a9, c9, _, _, rfl, -⟩ := id hs9
    have HS9 := Lib.hid hs9
    have HEN := Lib.hid (show enterL es (keyC x.key (verN es x.key)) x.tm (postsA c ds x) = (es9, z9) by rw [hkk, HPS.out]; exact hen)
    have HRR := Lib.hid (ap_s (c := c) (b := ⟨es, ds⟩) HZ.out HEN.out)
    have hl9 := lt_of_heap HY9.out.b3
    clear hs9 hb9 hen e0 e1 e2 d0 d1
    have m0 : w.heap.size < w9.heap.size := by omega
    have m1 : w.heap.size + 1 < w9.heap.size := by omega
    have m2 : w.heap.size + 1 + 1 < w9.heap.size := by omega
    have m3 : w.heap.size + 1 + 1 + 1 < w9.heap.size := by omega
    obtain ⟨d0, d1, -⟩ := blk2 HY9.out.b1
    obtain ⟨f0, f1, ff⟩ := blk2 HY9.out.b3
    have f0' : w9.cell? ⟨w.heap.size + 1 + 1 + 1, 0, none⟩ = some (.slice none 0 0) := f0
    have f1' : w9.cell? ⟨w.heap.size + 1 + 1 + 1, 1, none⟩ = some (.slice none 0 0) := f1
    have ff' : ∀ j, w9.frozen? ⟨w.heap.size + 1 + 1 + 1, j, none⟩ = false := ff
    clear f0 f1 ff
    by_cases hz9 : z9 = 0
    case neg =>
      have HR := Lib.hid (HRR.out.trans (if_pos hz9))
      have hz1 : (z9 != 0) = true := by simpa using hz9
      clear hz9
      go_wp2
      have g5 := alloc1_old (.cells #[.slice a9 es9.length c9] 68) (show ((w9.setCell ⟨w.heap.size + 1 + 1 + 1, 0, none⟩ (.slice ae es.length ce)).setCell ⟨w.heap.size + 1 + 1 + 1, 1, none⟩ (.slice (some ⟨bd, od, none⟩) ds.length cd)).heap[w.heap.size + 1 + 1 + 1]? = some (.cells #[(.slice ae es.length ce), (.slice (some ⟨bd, od, none⟩) ds.length cd)] 70 (0, 0)) from heap_setCell_same _ _ _ _ _ _ (heap_setCell_same _ _ _ _ _ _ HY9.out.b3))
      have b5 : Below w.heap.size w (((w9.setCell ⟨w.heap.size + 1 + 1 + 1, 0, none⟩ (.slice ae es.length ce)).setCell ⟨w.heap.size + 1 + 1 + 1, 1, none⟩ (.slice (some ⟨bd, od, none⟩) ds.length cd)).alloc (.cells #[.slice a9 es9.length c9] 68)) := bl_alloc (bl_set (bl_set HB9.out _ (by simp only; omega)) _ (by simp only; omega)) _
      obtain ⟨k0, k1, -⟩ := blk2 g5
      generalize ((w9.setCell ⟨w.heap.size + 1 + 1 + 1, 0, none⟩ (.slice ae es.length ce)).setCell ⟨w.heap.size + 1 + 1 + 1, 1, none⟩ (.slice (some ⟨bd, od, none⟩) ds.length cd)).alloc (.cells #[.slice a9 es9.length c9] 68) = wz at *
      refine bodyPost_ret (v := .tuple #[.agg #[(.slice ae es.length ce), (.slice (some ⟨bd, od, none⟩) ds.length cd)], .int .i64 z9]) (by simp [results, Tryz.results21, go_sem, k0, k1]) rfl ?_
      rw [HR.out]
      exact BookE.old (by simpa using hz1) HE.out HD.out b5
    subst hz9
    have HR := Lib.hid (HRR.out.trans (if_neg (by simp)))
    clear HRR
    have hes9 := enter_es HEN.out HBK.out.len HBK.out.es (Nat.le_trans (keyC_size (s := x.key) HXC.out.key (n_ok (Nat.le_trans ver_le HBK.out.len) (by omega))) (by omega)) (postsA_len c ds x)
    have hds8 := HBK.out.ds
    simp only at hds8
    have hAl := bl_alloc (Below.refl w9.heap.size w9) (.cells #[.slice a9 es9.length c9] 68)
    have HCL := Lib.hid (bclone_any es9 ds (.slice a9 es9.length c9) (.slice (some ⟨bd, od, none⟩) ds.length cd) (w9.alloc (.cells #[.slice a9 es9.length c9] 68)) (HS9.out.step hAl) (HD.out.keep (fun j (hj : j < w.heap.size) => Nat.lt_of_lt_of_le hj (Nat.le_trans HB9.out.size hAl.size)) (.of_below (HB9.out.trans (hAl.mono HB9.out.size)))) (by omega) (by omega) (fun e he => by have := (hes9.2 e he).ps; omega) (fun y hy => by have := (HBK.out.cok y hy).ls; omega))
    have HBA := Lib.hid (HB9.out.trans (hAl.mono HB9.out.size))
    have HYA := Lib.hid (HY9.out.step hAl hl9)
    clear hes9 hAl hz1
    go_wp2_with (fail)
    with_reducible refine HCL.out.mono ?_
    clear HCL
    rintro r w11 ⟨ve2, vd2, m, rfl, hm, hm11, hs2, hn2, hb11⟩
    obtain ⟨ae2, ce2, _, _, rfl, -⟩ := id hs2
    obtain ⟨ad2, cd2, rfl, hcd2, hcd3⟩ := hn2.form
    have HY11 := Lib.hid (HYA.out.step hb11 (by have := lt_of_heap HYA.out.b3; omega))
    have HB11 := Lib.hid (bl_trans HBA.out hb11)
    have HSE := Lib.hid (show SlIs (tEnt 101) (fun j => w.heap.size + 4 ≤ j ∧ j < w11.heap.size ∧ j < m) w11 (.slice ae2 es9.length ce2) es9 from hs2.keep (fun j hj => ⟨by have h1 := hj.1; simp only [World.size_alloc] at h1; omega, Nat.lt_of_lt_of_le hj.2 hm11, hj.2⟩) (SameOn.refl _ _))
    have HND := Lib.hid hn2
    have hm9 : w9.heap.size + 1 ≤ m := by simpa using hm
    clear hs2 hn2 hb11 hm d0 d1 f0' f1' ff' HBA HYA
    have hbB := bl_alloc (Below.refl w11.heap.size w11) (.cells #[.slice ae2 es9.length ce2, .slice ad2 ds.length cd2] 70)
    have gB := heap_alloc_new w11 (.cells #[.slice ae2 es9.length ce2, .slice ad2 ds.length cd2] 70)
    have h11 : w.heap.size + 3 < w11.heap.size := lt_of_heap HY11.out.b3
    go_upto_region 18 with (fail)
    generalize w11.alloc (.cells #[.slice ae2 es9.length ce2, .slice ad2 ds.length cd2] 70) = w12 at hbB gB ⊢
    have HY12 := Lib.hid (HY11.out.step hbB h11)
    have HBO := Lib.hid hbB
    have HB12 := Lib.hid (bl_trans HB11.out hbB)
    have HND2 := Lib.hid (NewL.ownS HND.out)
    have HG12 := Lib.hid (show BB w11.heap.size (.slice ae2 es9.length ce2) (.slice ad2 ds.length cd2) w12 from gB)
    have h12 := hbB.size
    have h12' := lt_of_heap gB
    have HPUT := Lib.hid (put_some (l := ds) (x := x) (k := k) hk (by rw [HY.out]; exact HKEY.out) HBK.out.sort)
    clear hbB gB HND HY11
    have HXK := Lib.hid (show ∀ w', Below w12.heap.size w12 w' → w'.cell? ⟨w11.heap.size, 1, none⟩ = some (.slice ad2 ds.length cd2) from fun w' hw' => (blk2 ((hw'.block _ (lt_of_heap HG12.out)).trans HG12.out)).2.1)
    have HX7 := Lib.hid (show ∀ w', Below w12.heap.size w12 w' → w'.cell? ⟨w.heap.size + 1 + 1, 0, none⟩ = some (.string x.key) ∧ w'.cell? ⟨w.heap.size + 1 + 1, 1, none⟩ = some (.string x.veh) ∧ w'.cell? ⟨w.heap.size + 1 + 1, 2, none⟩ = some (.string x.sys) ∧ w'.cell? ⟨w.heap.size + 1 + 1, 3, none⟩ = some (.int .i64 x.cls) ∧ w'.cell? ⟨w.heap.size + 1 + 1, 4, none⟩ = some (.int .i64 x.tm) ∧ w'.cell? ⟨w.heap.size + 1 + 1, 5, none⟩ = some (.slice xa x.ls.length xc) ∧ w'.cell? ⟨w.heap.size + 1 + 1, 6, none⟩ = some (.int .i64 x.c) from fun w' hw' => by
      obtain ⟨z0, z1, z2, z3, z4, z5, z6, -⟩ := blk7 ((hw'.block _ (lt_of_heap HY12.out.b2)).trans HY12.out.b2)
      exact ⟨z0, z1, z2, z3, z4, z5, z6⟩)
    have HCC := Lib.hid (show ∀ W, Below w12.heap.size w12 W → Calls Tryz.prog 52 #[.agg #[.string x.key, .string x.veh, .string x.sys, .int .i64 x.cls, .int .i64 x.tm, .slice xa x.ls.length xc, .int .i64 x.c]] W fun e w' => ∃ h', e = .returned (.agg #[.string x.key, .string x.veh, .string x.sys, .int .i64 x.cls, .int .i64 x.tm, h', .int .i64 x.c]) ∧ NewL tSI 140 W.heap.size w' h' x.ls ∧ Below W.heap.size W w' from fun W hW => cloneC_any x _ W (HV.out.step (bl_trans HB12.out hW)) (by have := HXC.out.ls; omega))
    have hown := HND2.out.own_lt
    have HST := Lib.hid (show ∀ w' h', Below w12.heap.size w12 w' → SlIs tSI (fun q => w12.heap.size ≤ q ∧ q < w'.heap.size) w' h' x.ls → _ from fun w' h' hw' hh' => OwnS.storeA ((HND2.out.below (fun q hq => hq.2.1) (bl_trans HBO.out hw')).mono (S' := fun q => m ≤ q ∧ q < w'.heap.size ∧ q ≠ w11.heap.size ∧ some q ≠ (Value.slice ad2 ds.length cd2).ownBlock) (fun q hq => ⟨hq.1, by have := (bl_trans HBO.out hw').size; omega, by omega, hq.2.2⟩)) (fun q hq => hq.2.2.2) (by omega))
    refine wp_region_E 6 (fun w' => Below w12.heap.size w12 w') (by kernel_rfl) ((by (repeat (first | (with_reducible exact Below.refl _ _) | (with_reducible apply bl_drewN) | (with_reducible apply bl_alloc) | (with_reducible apply Below.drew))); done)) (fun hHeld => ?_)
    refine wpE_take (i := 0) (v := ?_) rfl (by kernel_rfl) (fun _ _ _ h => h) (Or.inl ⟨by kernel_rfl, ?_⟩) (by assumption) ?_
    rotate_left
    focus (intro w9 hS9; (try dsimp only at hS9); go_simp; (try with_reducible rfl))
    (try simp only [List.getElem_toArray, List.getElem_cons_zero])
    (try simp only [Act.put])
    (try simp only [List.setIfInBounds_toArray])
    (repeat (first | simp only [List.set_cons_succ] | simp only [List.set_cons_zero]))
    refine wpE_take (i := 1) (v := ?_) rfl (by kernel_rfl) (fun _ _ _ h => h) (Or.inl ⟨by kernel_rfl, ?_⟩) (by assumption) ?_
    rotate_left
    focus (intro w9 hS9; have z0 := HXK.out w9 hS9; clear hS9; go_simp; (try with_reducible rfl))
    (try simp only [List.getElem_toArray, List.getElem_cons_succ, List.getElem_cons_zero])
    (try simp only [Act.put])
    (try simp only [List.setIfInBounds_toArray])
    (repeat (first | simp only [List.set_cons_succ] | simp only [List.set_cons_zero]))
    refine wpE_take (i := 2) (v := ?_) rfl (by kernel_rfl) (fun _ _ _ h => h) (Or.inl ⟨by kernel_rfl, ?_⟩) (by assumption) ?_
    rotate_left
    focus (intro w9 hS9; (try dsimp only at hS9); go_simp; (try with_reducible rfl))
    (try simp only [List.getElem_toArray, List.getElem_cons_succ, List.getElem_cons_zero])
    (try simp only [Act.put])
    (try simp only [List.setIfInBounds_toArray])
    (repeat (first | simp only [List.set_cons_succ] | simp only [List.set_cons_zero]))
    refine wpE_take (i := 3) (v := ?_) rfl (by kernel_rfl) (fun _ _ _ h => h) (Or.inl ⟨by kernel_rfl, ?_⟩) (by assumption) ?_
    rotate_left
    focus (intro w9 hS9; obtain ⟨z0, z1, z2, z3, z4, z5, z6⟩ := HX7.out w9 hS9; clear hS9; go_simp; (try with_reducible rfl))
    (try simp only [List.getElem_toArray, List.getElem_cons_succ, List.getElem_cons_zero])
    (try simp only [Act.put])
    (try simp only [List.setIfInBounds_toArray])
    (repeat (first | simp only [List.set_cons_succ] | simp only [List.set_cons_zero]))
    refine wpE_ready (rs := [4]) (by kernel_rfl) (by kernel_rfl) ?_
    refine AllReadyE.cons rfl (fun K hK => ?_) AllReadyE.nil
    go_simp
    with_reducible refine (HCC.out _ (by (repeat (first | (with_reducible exact Below.refl _ _) | (with_reducible apply bl_drewN) | (with_reducible apply bl_alloc) | (with_reducible apply Below.drew))); done)).mono ?_
    rintro r w13 ⟨h', rfl, hn5, hb5⟩
    obtain ⟨a5, c5, rfl, -⟩ := hn5.form
    have HN5 := Lib.hid (show NewL tSI 140 w12.heap.size w13 (.slice a5 x.ls.length c5) x.ls from hn5)
    have HB5 := Lib.hid (show Below w12.heap.size w12 w13 from bl_trans (by (repeat (first | (with_reducible exact Below.refl _ _) | (with_reducible apply bl_drewN) | (with_reducible apply bl_alloc) | (with_reducible apply Below.drew))); done) hb5)
    clear hn5 hb5 HCC
    clear hHeld
    refine hK.out _ _ (HB5.out) (fun hHeld => ?_)
    clear hK K
    obtain ⟨g, cap, cur, hv2, hgm, hgl, hcur, hcz, hset⟩ := HST.out w13 (.slice a5 x.ls.length c5) HB5.out HN5.out.sl
    injection hv2 with q1 q2 q3
    subst q1 q3
    clear q2
    refine wpE_ready (rs := [5]) (by kernel_rfl) (by kernel_rfl) ?_
    refine AllReadyE.cons rfl (fun K hK => ?_) AllReadyE.nil
    go_simp
    clear hHeld
    refine hK.out _ _ (HB5.out) (fun hHeld => ?_)
    clear hK K
    clear hHeld
    refine wpE_out (by kernel_rfl) ?_
    refine wpAny_ready (rs := [6]) (by kernel_rfl) (by simp) ?_
    refine AllReady.cons rfl (fun K hK => ?_) AllReady.nil
    rw [if_pos (show _ = true by kernel_rfl)]
    have hs5 := HB5.out.size
    have hcz7 : ds.length * 7 ≤ cur.size := hcz
    have hw14 := hset k #[.string x.key, .string x.veh, .string x.sys, .int .i64 x.cls, .int .i64 x.tm, .slice a5 x.ls.length c5, .int .i64 x.c] x hk (tChg_mk HX.out (HN5.out.sl.keep (fun q hq => ⟨by omega, hq.2, by omega, fun e => by have := (hown _ e.symm).2; omega⟩) (SameOn.refl _ _)))
    refine wp_storeA (.tmp 97) (.tmp 96) 49 rfl rfl (cur := cur) (n := 7) (g := g) (k := k * 7) (t2 := 49) Tryz.sizeOf49 rfl (by simp [Value.oneCell']) rfl rfl hcur (by omega) ?_
    have hgne : g < w11.heap.size := (hown g rfl).2
    generalize hW14 : w13.setRow g (cur.toList.take (k * 7) ++ (#[.string x.key, .string x.veh, .string x.sys, .int .i64 x.cls, .int .i64 x.tm, .slice a5 x.ls.length c5, .int .i64 x.c] : Array Value).toList ++ cur.toList.drop (k * 7 + 7)).toArray = w14
    have hoth : ∀ q, q ≠ g → w14.heap[q]? = w13.heap[q]? := fun q hq => by rw [← hW14]; exact setRow_other _ _ _ _ hq
    have hsz14 : w14.heap.size = w13.heap.size := by rw [← hW14]; simp [World.setRow]
    have hl15 := lt_of_heap HY12.out.b3
    have HT16 := Lib.hid (show BB (w.heap.size + 3) (.slice none 0 0) (.slice none 0 0) w14 from (hoth _ (by omega)).trans ((HB5.out.block _ hl15).trans HY12.out.b3))
    have HB16 := Lib.hid (show Below w.heap.size w w14 from by rw [← hW14]; exact below_setRow (bl_trans HB12.out HB5.out) (bl_trans HB12.out HB5.out).size (by omega))
    have HG16 := Lib.hid (show BB w11.heap.size (.slice ae2 es9.length ce2) (.slice (some ⟨g, 0, none⟩) ds.length cd2) w14 from (hoth _ (by omega)).trans ((HB5.out.block _ h12').trans HG12.out))
    have HSE16 := Lib.hid (show SlIs (tEnt 101) (fun q => w.heap.size + 4 ≤ q ∧ q < w11.heap.size) w14 (.slice ae2 es9.length ce2) es9 from HSE.out.keep (fun q hq => ⟨hq.1, hq.2.1⟩) (fun q hq => (hoth q (by omega)).trans ((HB5.out.block q (by omega)).trans (HBO.out.block q hq.2.1))))
    have hs16 : OwnS (tChg eL) 49 m (fun q => m ≤ q ∧ q < w13.heap.size ∧ q ≠ w11.heap.size ∧ some q ≠ (Value.slice (some ⟨g, 0, none⟩) ds.length cd2).ownBlock) w14 (.slice (some ⟨g, 0, none⟩) ds.length cd2) (ds.set k x) := by rw [← hW14]; exact hw14
    have HSD16 := Lib.hid (show SlIs (tChg eL) (fun q => w.heap.size + 4 ≤ q ∧ q < w14.heap.size) w14 (.slice (some ⟨g, 0, none⟩) ds.length cd2) (putP ds x) from by
      rw [← HPUT.out]
      exact hs16.sl.keep (fun q hq => by
        rcases hq with q1 | q1
        · exact ⟨by omega, by omega⟩
        · have q2 : g = q := by simpa [Value.ownBlock] using q1
          exact ⟨by omega, by omega⟩) (SameOn.refl _ _))
    clear hw14 hs16 hoth hset hcur hcz hcz7 hW14 HST
    obtain ⟨r0, r1, rf⟩ := blk2 HG16.out
    obtain ⟨s0, s1, sf⟩ := blk2 HT16.out
    have s0' : w14.cell? ⟨w.heap.size + 1 + 1 + 1, 0, none⟩ = some (.slice none 0 0) := s0
    have s1' : w14.cell? ⟨w.heap.size + 1 + 1 + 1, 1, none⟩ = some (.slice none 0 0) := s1
    have sf' : ∀ q, w14.frozen? ⟨w.heap.size + 1 + 1 + 1, q, none⟩ = false := sf
    have hl16 : w.heap.size + 1 + 1 + 1 < w14.heap.size := by omega
    have hl17 : w.heap.size + 1 + 1 + 1 ≠ w11.heap.size := by omega
    clear s0 s1 sf
    refine hK _ _ ?_
    clear hK K
    refine wpAny_done (by kernel_rfl) ?_ _
    go_wp2
    have g5 : ((w14.setCell ⟨w.heap.size + 1 + 1 + 1, 0, none⟩ (.slice ae2 es9.length ce2)).setCell ⟨w.heap.size + 1 + 1 + 1, 1, none⟩ (.slice (some ⟨g, 0, none⟩) ds.length cd2)).heap[w.heap.size + 1 + 1 + 1]? = some (.cells #[(.slice ae2 es9.length ce2), (.slice (some ⟨g, 0, none⟩) ds.length cd2)] 70 (0, 0)) := heap_setCell_same _ _ _ _ _ _ (heap_setCell_same _ _ _ _ _ _ HT16.out)
    have b5 : Below w.heap.size w ((w14.setCell ⟨w.heap.size + 1 + 1 + 1, 0, none⟩ (.slice ae2 es9.length ce2)).setCell ⟨w.heap.size + 1 + 1 + 1, 1, none⟩ (.slice (some ⟨g, 0, none⟩) ds.length cd2)) := bl_set (bl_set HB16.out _ (by simp only; omega)) _ (by simp only; omega)
    have hoth : ∀ q, w.heap.size + 4 ≤ q → ((w14.setCell ⟨w.heap.size + 1 + 1 + 1, 0, none⟩ (.slice ae2 es9.length ce2)).setCell ⟨w.heap.size + 1 + 1 + 1, 1, none⟩ (.slice (some ⟨g, 0, none⟩) ds.length cd2)).heap[q]? = w14.heap[q]? := fun q hq => (Below.heap_setCell _ _ _ _ (by simp only; omega)).trans (Below.heap_setCell _ _ _ _ (by simp only; omega))
    have hz17 : w14.heap.size = ((w14.setCell ⟨w.heap.size + 1 + 1 + 1, 0, none⟩ (.slice ae2 es9.length ce2)).setCell ⟨w.heap.size + 1 + 1 + 1, 1, none⟩ (.slice (some ⟨g, 0, none⟩) ds.length cd2)).heap.size := by simp
    obtain ⟨k0, k1, -⟩ := blk2 g5
    generalize (w14.setCell ⟨w.heap.size + 1 + 1 + 1, 0, none⟩ (.slice ae2 es9.length ce2)).setCell ⟨w.heap.size + 1 + 1 + 1, 1, none⟩ (.slice (some ⟨g, 0, none⟩) ds.length cd2) = wf at *
    refine bodyPost_ret (v := .tuple #[.agg #[(.slice ae2 es9.length ce2), (.slice (some ⟨g, 0, none⟩) ds.length cd2)], .int .i64 0]) (by simp [results, Tryz.results21, go_sem, k0, k1]) rfl ?_
    rw [HR.out]
    exact ⟨(.slice ae2 es9.length ce2), (.slice (some ⟨g, 0, none⟩) ds.length cd2), rfl, HSE16.out.keep (fun q hq => ⟨fun _ => by omega, by omega⟩) (fun q hq => hoth q hq.1), HSD16.out.keep (fun q hq => ⟨fun _ => by omega, by omega⟩) (fun q hq => hoth q hq.1), b5, fun h => absurd rfl h⟩
end Go.Proofs.YtifcelebfagjbaaGreatDoor
/-
  Layer 37 (post): Void.
-/
namespace Go.Tw.Po
open Go.RowKit Go.Tw Go.Sort Go.Tw.Ord Go.Proofs.YtifcelebfagjbaaGreatDoor
theorem vo_none {c : List Acc} {b : Bk} {s : ByteArray} {t : Int} (h : fndC b.ds s = none) : voidP c b s t = (b, 10) := by unfold voidP; rw [h]
theorem vo_time {c : List Acc} {b : Bk} {s : ByteArray} {t : Int} {o : Chg} (h : fndC b.ds s = some o) (ht : momC t = false) : voidP c b s t = (b, 12) := by unfold voidP; rw [h]; simp only; rw [if_pos ht]
theorem vo_s {c : List Acc} {b : Bk} {s : ByteArray} {t : Int} {o : Chg} (h : fndC b.ds s = some o) (ht : momC t = true) {es' : List Ent} {z : Int} (he : enterL b.es (keyC s (verN b.es s)) t (moveP c [] o (-o.c)) = (es', z)) : voidP c b s t = if z ≠ 0 then (b, z) else (⟨es', b.ds.filter fun x => !decide (x.key = s)⟩, 0) := by
  unfold voidP; rw [h]; simp only; rw [if_neg (by simp [ht])]; simp only [he]
theorem del_some {l : List Chg} {s : ByteArray} {k : Nat} (hk : k < l.length) (he : l[k].key = s) (hs : SortK l) : l.take k ++ l.drop (k + 1) = l.filter fun x => !decide (x.key = s) := by
  induction l generalizing k with
  | nil => simp at hk
  | cons y l ih =>
    have hs' := List.pairwise_cons.1 hs
    cases k with
    | zero =>
      have he' : y.key = s := by simpa using he
      have hf : l.filter (fun x => !decide (x.key = s)) = l := List.filter_eq_self.2 fun z hz => by
        have := ltB_ne (hs'.1 z hz)
        rw [he'] at this
        simpa using fun e => this e.symm
      rw [List.filter_cons, if_neg (by simp [he']), hf]
      rfl
    | succ k =>
      have hk' : k < l.length := by simpa using hk
      have he' : l[k].key = s := by rwa [List.getElem_cons_succ] at he
      have hlt := hs'.1 l[k] (List.getElem_mem _)
      rw [he'] at hlt
      have hne := ltB_ne hlt
      rw [List.filter_cons, if_pos (by simpa using hne), ← ih hk' he' hs'.2]
      rfl
end Go.Tw.Po
namespace Go.Proofs.YtifcelebfagjbaaGreatDoor
open Go.RowKit Go.Tw Go.Tw.Ord Go.Tw.Po Go.Sort
/-- the boxes of Void -/
structure VW (n : Nat) (A : Array Value) (ve vd : Value) (wr : World) : Prop where
  b0 : wr.heap[n]? = some (.cells A 46 (0, 0))
  b1 : BB (n + 1) ve vd wr
  b2 : BB (n + 2) (.slice none 0 0) (.slice none 0 0) wr
theorem VW.same {n : Nat} {A : Array Value} {ve vd : Value} {w w' : World} (h : VW n A ve vd w) (hs : ∀ k, n ≤ k → k ≤ n + 2 → w'.heap[k]? = w.heap[k]?) : VW n A ve vd w' :=
  ⟨(hs n (Nat.le_refl _) (by omega)).trans h.b0, (hs (n + 1) (by omega) (by omega)).trans h.b1, (hs (n + 2) (by omega) (by omega)).trans h.b2⟩
theorem VW.step {n B : Nat} {A : Array Value} {ve vd : Value} {w w' : World} (h : VW n A ve vd w) (hb : Below B w w') (hB : n + 2 < B) : VW n A ve vd w' := h.same fun k _ hk => hb.block k (by omega)
theorem VW.put {n : Nat} {A : Array Value} {ve vd : Value} {w : World} (h : VW n A ve vd w) {q : Addr} (hq : n + 2 < q.block) (u : Value) : VW n A ve vd (w.setCell q u) := h.same fun k _ hk => Below.heap_setCell _ _ _ _ (by omega)
set_option maxRecDepth 100000 in
set_option maxHeartbeats 8000000 in
theorem void_any (L : List Chg) (N : Nat) (c : List Acc) (A : Array Value) (va ve vd : Value) (es : List Ent) (ds : List Chg) (s : ByteArray) (tm : Int) (w : World) (hA : CfgA A va) (hc : SlIs (tAcc 138) (· < w.heap.size) w va c) (hk : CfOk c) (hb : BOk L N ⟨es, ds⟩) (hN : N ≤ 900)
    (he : SlIs (tEnt 101) (· < w.heap.size) w ve es) (hd : SlIs (tChg eL) (· < w.heap.size) w vd ds) (htm : i64ok tm) (hf : FmtAll w) :
    Calls Tryz.prog 31 #[.agg A, .agg #[ve, vd], .string s, .int .i64 tm] w (BookE w (.agg #[ve, vd]) (voidP c ⟨es, ds⟩ s tm)) := by
  have h0 := alloc3 w (.cells A 46) (.cells #[ve, vd] 70) (.cells #[.slice none 0 0, .slice none 0 0] 70)
  have HY := Lib.hid (show VW w.heap.size A ve vd _ from ⟨h0.1, h0.2.1, h0.2.2⟩)
  have HB0 := Lib.hid (bl_alloc (bl_alloc (bl_alloc (Below.refl w.heap.size w) (.cells A 46)) (.cells #[ve, vd] 70)) (.cells #[.slice none 0 0, .slice none 0 0] 70))
  obtain ⟨ae, ce, _, _, rfl, -⟩ := id he
  obtain ⟨ad, cd, bd, od, rfl, hd1, hd2, hdo⟩ := chg_open hd
  have HDO := Lib.hid hdo
  have HA := Lib.hid hA
  have HC := Lib.hid hc
  have HK := Lib.hid hk
  have HF := Lib.hid hf
  have HE := Lib.hid he
  have HD := Lib.hid hd
  have HBK := Lib.hid hb
  have HTM := Lib.hid htm
  have HFD := Lib.hid (find_any ds (.slice ae es.length ce) (.slice ad ds.length cd) s _ (HD.out.step HB0.out))
  obtain ⟨d0, d1, -⟩ := blk2 HY.out.b1
  clear hA hc hk hf h0 he hd hdo hb htm
  go_enter Tryz.func31, Tryz.ntmps31
  go_wp2_with (fail)
  with_reducible refine HFD.out.mono ?_
  rintro r wa ⟨rfl, hba⟩
  have HYa := Lib.hid (HY.out.step hba (by simp))
  have HBa := Lib.hid (bl_trans HB0.out hba)
  have hla := lt_of_heap HYa.out.b2
  have m0 : w.heap.size < wa.heap.size := by omega
  have m1 : w.heap.size + 1 < wa.heap.size := by omega
  have m2 : w.heap.size + 1 + 1 < wa.heap.size := by omega
  clear hba HFD d0 d1 HY
  obtain ⟨d0, d1, -⟩ := blk2 HYa.out.b1
  obtain ⟨f0, f1, ff⟩ := blk2 HYa.out.b2
  have f0' : wa.cell? ⟨w.heap.size + 1 + 1, 0, none⟩ = some (.slice none 0 0) := f0
  have f1' : wa.cell? ⟨w.heap.size + 1 + 1, 1, none⟩ = some (.slice none 0 0) := f1
  have ff' : ∀ j, wa.frozen? ⟨w.heap.size + 1 + 1, j, none⟩ = false := ff
  clear f0 f1 ff
  rcases fnd_two ds s with ⟨f1, f2, f3⟩ | ⟨k, hk, f1, f2, f3, f4⟩
  · have HR := Lib.hid (vo_none (c := c) (b := ⟨es, ds⟩) (t := tm) f2)
    rw [f1]
    clear f1 f2 f3
    go_wp2
    have g5 : ((wa.setCell ⟨w.heap.size + 1 + 1, 0, none⟩ (.slice ae es.length ce)).setCell ⟨w.heap.size + 1 + 1, 1, none⟩ (.slice ad ds.length cd)).heap[w.heap.size + 1 + 1]? = some (.cells #[(.slice ae es.length ce), (.slice ad ds.length cd)] 70 (0, 0)) := heap_setCell_same _ _ _ _ _ _ (heap_setCell_same _ _ _ _ _ _ HYa.out.b2)
    have b5 : Below w.heap.size w ((wa.setCell ⟨w.heap.size + 1 + 1, 0, none⟩ (.slice ae es.length ce)).setCell ⟨w.heap.size + 1 + 1, 1, none⟩ (.slice ad ds.length cd)) := bl_set (bl_set HBa.out _ (by simp only; omega)) _ (by simp only; omega)
    obtain ⟨k0, k1, -⟩ := blk2 g5
    generalize (wa.setCell ⟨w.heap.size + 1 + 1, 0, none⟩ (.slice ae es.length ce)).setCell ⟨w.heap.size + 1 + 1, 1, none⟩ (.slice ad ds.length cd) = w9 at *
    refine bodyPost_ret (v := .tuple #[.agg #[(.slice ae es.length ce), (.slice ad ds.length cd)], .int .i64 10]) (by simp [results, Tryz.results31, go_sem, k0, k1]) rfl ?_
    rw [HR.out]
    exact BookE.old (by decide) HE.out HD.out b5
  have hkd1 : chkC ds[k] = 0 := HBK.out.chk _ (List.getElem_mem hk)
  have hyc : COk ds[k] := HBK.out.cok _ (List.getElem_mem hk)
  have hycf : 0 ≤ ds[k].c ∧ ds[k].c ≤ 1125899906842624 := ⟨(chk_facts hkd1).2.2.2.2.2.2.1, (chk_facts hkd1).2.2.2.2.2.2.2.1⟩
  have HMA := Lib.hid (fun W => moment_any tm W)
  rw [f1]
  have HSK := Lib.hid (show s.size ≤ 60 by have := hyc.key; rw [f3] at this; exact this)
  have k0 : (0 : Int) ≤ (k : Int) := by omega
  have k1 : ¬ ((k : Int) < 0) := by omega
  obtain ⟨q, hq⟩ : ∃ q, (decide (0 ≤ tm) && decide (tm ≤ 68719476736)) = q := ⟨_, rfl⟩
  rw [hq] at HMA
  cases q with
  | false =>
    have HR := Lib.hid (vo_time (c := c) (b := ⟨es, ds⟩) (t := tm) f2 hq)
    clear f1 f2 f3 f4 hq hyc hycf hkd1
    go_wp2_with (go_at_call 63; with_reducible refine (HMA.out _).mono ?_; rintro e w1 ⟨rfl, rfl⟩)
    have g5 : ((wa.setCell ⟨w.heap.size + 1 + 1, 0, none⟩ (.slice ae es.length ce)).setCell ⟨w.heap.size + 1 + 1, 1, none⟩ (.slice ad ds.length cd)).heap[w.heap.size + 1 + 1]? = some (.cells #[(.slice ae es.length ce), (.slice ad ds.length cd)] 70 (0, 0)) := heap_setCell_same _ _ _ _ _ _ (heap_setCell_same _ _ _ _ _ _ HYa.out.b2)
    have b5 : Below w.heap.size w ((wa.setCell ⟨w.heap.size + 1 + 1, 0, none⟩ (.slice ae es.length ce)).setCell ⟨w.heap.size + 1 + 1, 1, none⟩ (.slice ad ds.length cd)) := bl_set (bl_set HBa.out _ (by simp only; omega)) _ (by simp only; omega)
    obtain ⟨k0, k1, -⟩ := blk2 g5
    generalize (wa.setCell ⟨w.heap.size + 1 + 1, 0, none⟩ (.slice ae es.length ce)).setCell ⟨w.heap.size + 1 + 1, 1, none⟩ (.slice ad ds.length cd) = w9 at *
    refine bodyPost_ret (v := .tuple #[.agg #[(.slice ae es.length ce), (.slice ad ds.length cd)], .int .i64 12]) (by simp [results, Tryz.results31, go_sem, k0, k1]) rfl ?_
    rw [HR.out]
    exact BookE.old (by decide) HE.out HD.out b5
  | true =>
  have HMO := Lib.hid (show momC tm = true from hq)
  have HFS := Lib.hid f2
  have HKEY := Lib.hid f3
  clear f1 f2 f3 f4 hq
  go_upto_region 7 with (go_at_call 63; with_reducible refine (HMA.out _).mono ?_; rintro e w1 ⟨rfl, rfl⟩)
  have hA3 := bl_alloc (Below.refl wa.heap.size wa) (.cells #[.string ⟨#[]⟩, .int .i64 0, .slice none 0 0] 105)
  have g3 := heap_alloc_new wa (.cells #[.string ⟨#[]⟩, .int .i64 0, .slice none 0 0] 105)
  generalize wa.alloc (.cells #[.string ⟨#[]⟩, .int .i64 0, .slice none 0 0] 105) = wb at hA3 g3 ⊢
  have HY3 := Lib.hid (HYa.out.step hA3 hla)
  have HB3 := Lib.hid (bl_trans HBa.out hA3)
  have HG3 := Lib.hid g3
  have HBW := Lib.hid hA3
  have HVE := Lib.hid (version_any es (.slice ae es.length ce) s wb (HE.out.step HB3.out) (by have := HSK.out; omega) (by have := HBK.out.len; simp only at this; omega))
  have hvl : (verN es s : Int) ≤ 900 := by have h1 := HBK.out.len; have h2 := ver_le (l := es) (s := s); simp only at h1; omega
  have HKY := Lib.hid (fun (W : World) (hW : Below w.heap.size w W) => key_any s (verN es s : Int) W (by have := HSK.out; omega) (by unfold i64ok; omega) ((HF.out _ (by unfold i64ok; omega)).step hW))
  have HKS := Lib.hid (show (keyC s (verN es s)).size ≤ 81 from keyC_size HSK.out (by unfold i64ok; omega))
  generalize hkk : keyC s (verN es s) = kk at HKY HKS
  obtain ⟨vn, hvn⟩ : ∃ vn : Int, (verN es s : Int) = vn := ⟨_, rfl⟩
  rw [hvn] at HVE HKY hvl
  clear d0 d1 f0' f1' ff' hvn hA3
  obtain ⟨d0, d1, -⟩ := blk2 HY3.out.b1
  go_wp2_with (fail)
  with_reducible refine HVE.out.mono ?_
  rintro r w4 ⟨rfl, hb4⟩
  have HB34 := Lib.hid (show Below wb.heap.size wb w4 from hb4)
  clear hb4 HVE d0 d1
  go_wp2_with (fail)
  with_reducible refine (HKY.out _ (bl_trans HB3.out HB34.out)).mono ?_
  rintro r w5 ⟨rfl, hb5⟩
  have HB35 := Lib.hid (show Below wb.heap.size wb w5 from bl_trans HB34.out hb5)
  clear hb5 HB34 HKY
  have g5 := (HB35.out.block _ (lt_of_heap HG3.out)).trans HG3.out
  obtain ⟨q0, q1, q2, qf⟩ := blk3 g5
  have hl5 : wa.heap.size < w5.heap.size := lt_of_heap g5
  have HG5 := Lib.hid g5
  clear g5 g3 HG3
  go_upto_region 8 with (fail)
  have g6 : ((w5.setCell ⟨wa.heap.size, 0, none⟩ (.string kk)).setCell ⟨wa.heap.size, 1, none⟩ (.int .i64 tm)).heap[wa.heap.size]? = some (.cells #[.string kk, .int .i64 tm, .slice none 0 0] 105 (0, 0)) := heap_setCell_same _ _ _ _ _ _ (heap_setCell_same _ _ _ _ _ _ HG5.out)
  have b6 : Below w.heap.size w ((w5.setCell ⟨wa.heap.size, 0, none⟩ (.string kk)).setCell ⟨wa.heap.size, 1, none⟩ (.int .i64 tm)) := bl_set (bl_set (bl_trans HB3.out HB35.out) _ HBa.out.size) _ HBa.out.size
  have y6 := ((HY3.out.step HB35.out (by have := lt_of_heap HY3.out.b2; omega)).put (q := ⟨wa.heap.size, 0, none⟩) (by simp only; omega) (.string kk)).put (q := ⟨wa.heap.size, 1, none⟩) (by simp only; omega) (.int .i64 tm)
  generalize (w5.setCell ⟨wa.heap.size, 0, none⟩ (.string kk)).setCell ⟨wa.heap.size, 1, none⟩ (.int .i64 tm) = w7 at g6 b6 y6 ⊢
  have HY7 := Lib.hid y6
  have HB7 := Lib.hid b6
  have hl6 : wa.heap.size < w7.heap.size := lt_of_heap g6
  have hw02 : w.heap.size + 2 < wa.heap.size := hla
  obtain ⟨gd, hgd⟩ : ∃ gd, wa.heap.size = gd := ⟨_, rfl⟩
  rw [hgd] at g6 hl6 hw02 ⊢
  have HDW := Lib.hid (show DW w7.heap.size gd kk tm [] w7 (.slice none 0 0) from ⟨g6, NewL.nil, lt_of_heap g6⟩)
  clear g6 b6 y6 q0 q1 q2 qf hl5 HG5 HY3 HB3 HB35 HYa HBa hgd hla m0 m1 m2 HMA HBW
  obtain ⟨hao, -, hbd, hyok, hv9, hsl9, k0', k1', k2', k3', k4', k5', k6'⟩ := HDO.out w7 (.of_below HB7.out) k hk
  subst hao
  have HYK := Lib.hid (show ∃ y, ds[k] = y from ⟨_, rfl⟩)
  obtain ⟨y, hy⟩ := HYK.out
  rw [hy] at k0' k1' k2' k3' k4' k6' hycf hyc hsl9 hyok
  have HFS' := Lib.hid (show fndC ds s = some y by rw [HFS.out, hy])
  have HYY := Lib.hid hy
  obtain ⟨ya, yc, _, _, rfl, -⟩ := id hsl9
  have i1 : (k : Int) < (ds.length : Int) := by omega
  clear hy HYK hsl9 hkd1 HFS
  have HFS := HFS'
  clear HFS'
  have HLC := Lib.hid (show ∀ w', Below w7.heap.size w7 w' → Sem.run Tryz.prog (loadCellsFrom ⟨w.heap.size, 0, none⟩ 0 25 #[]) w' = .ok A w' from fun w' hw' => load_blk ((hw'.block _ (lt_of_heap HY7.out.b0)).trans HY7.out.b0) HA.out.size Tryz.prog)
  have HLD := Lib.hid (show ∀ w', Below w7.heap.size w7 w' → w'.cell? ⟨w.heap.size + 1, 1, none⟩ = some (.slice (some ⟨bd, od, none⟩) ds.length cd) from fun w' hw' => (blk2 ((hw'.block _ (lt_of_heap HY7.out.b1)).trans HY7.out.b1)).2.1)
  have hbd7 : bd < w7.heap.size := Nat.lt_of_lt_of_le hbd HB7.out.size
  have HL7 := Lib.hid (show ∀ w', Below w7.heap.size w7 w' → w'.cell? ⟨bd, od + k * 7, none⟩ = some (.string y.key) ∧ w'.cell? ⟨bd, od + k * 7 + 1, none⟩ = some (.string y.veh) ∧ w'.cell? ⟨bd, od + k * 7 + 2, none⟩ = some (.string y.sys) ∧ w'.cell? ⟨bd, od + k * 7 + 3, none⟩ = some (.int .i64 y.cls) ∧ w'.cell? ⟨bd, od + k * 7 + 4, none⟩ = some (.int .i64 y.tm) ∧ w'.cell? ⟨bd, od + k * 7 + 5, none⟩ = some (.slice ya y.ls.length yc) ∧ w'.cell? ⟨bd, od + k * 7 + 6, none⟩ = some (.int .i64 y.c) from fun w' hw' =>
    ⟨(hw'.cell (p := ⟨bd, od + k * 7, none⟩) hbd7).trans k0', (hw'.cell (p := ⟨bd, od + k * 7 + 1, none⟩) hbd7).trans k1', (hw'.cell (p := ⟨bd, od + k * 7 + 2, none⟩) hbd7).trans k2', (hw'.cell (p := ⟨bd, od + k * 7 + 3, none⟩) hbd7).trans k3', (hw'.cell (p := ⟨bd, od + k * 7 + 4, none⟩) hbd7).trans k4', (hw'.cell (p := ⟨bd, od + k * 7 + 5, none⟩) hbd7).trans k5', (hw'.cell (p := ⟨bd, od + k * 7 + 6, none⟩) hbd7).trans k6'⟩)
  have HL6 := Lib.hid (show ∀ w', Below w7.heap.size w7 w' → w'.cell? ⟨bd, od + k * 7 + 6, none⟩ = some (.int .i64 y.c) from fun w' hw' => (HL7.out w' hw').2.2.2.2.2.2)
  have hneg : IntKind.i64.wrap (-y.c) = -y.c := wrap_in (by omega) (by omega)
  have HMV1 := Lib.hid (show ∀ W, Below w7.heap.size w7 W → _ from fun W hW => move_any c A va y ya y.ls.length yc w7.heap.size gd kk tm [] (.slice none 0 0) (-y.c) 0 W (HDW.out.below hW) hW.size (by simp) (nil_amt 0) (by omega) (by omega) (by omega) HA.out (HC.out.step (bl_trans HB7.out hW)) HK.out hyc.veh hyc.sys)
  clear k0' k1' k2' k3' k4' k5' k6'
  refine wp_region_E 13 (fun w' => Below w7.heap.size w7 w') (by kernel_rfl) ((by (repeat (first | (with_reducible exact Below.refl _ _) | (with_reducible apply bl_drewN) | (with_reducible apply bl_alloc) | (with_reducible apply Below.drew))); done)) (fun hHeld => ?_)
  refine wpE_take (i := 0) (v := ?_) rfl (by kernel_rfl) (fun _ _ _ h => h) (Or.inl ⟨by kernel_rfl, ?_⟩) (by assumption) ?_
  rotate_left
  focus (intro w9 hS9; refine exec_loadA (t := 46) (x := Operand.tmp 4) (p := ⟨w.heap.size, 0, none⟩) (A := A) ?_ Tryz.isAgg46 Tryz.sizeOf46 ?_ (HLC.out w9 hS9); rfl; go_simp; (try rfl))
  (try simp only [List.getElem_toArray, List.getElem_cons_zero])
  (try simp only [Act.put])
  (try simp only [List.setIfInBounds_toArray])
  (repeat (first | simp only [List.set_cons_succ] | simp only [List.set_cons_zero]))
  refine wpE_take (i := 1) (v := ?_) rfl (by kernel_rfl) (fun _ _ _ h => h) (Or.inl ⟨by kernel_rfl, ?_⟩) (by assumption) ?_
  rotate_left
  focus (intro w9 hS9; (try dsimp only at hS9); go_simp; (try with_reducible rfl))
  (try simp only [List.getElem_toArray, List.getElem_cons_succ, List.getElem_cons_zero])
  (try simp only [Act.put])
  (try simp only [List.setIfInBounds_toArray])
  (repeat (first | simp only [List.set_cons_succ] | simp only [List.set_cons_zero]))
  refine wpE_take (i := 2) (v := ?_) rfl (by kernel_rfl) (fun _ _ _ h => h) (Or.inl ⟨by kernel_rfl, ?_⟩) (by assumption) ?_
  rotate_left
  focus (intro w9 hS9; have z0 := HLD.out w9 hS9; clear hS9; go_simp; (try with_reducible rfl))
  (try simp only [List.getElem_toArray, List.getElem_cons_succ, List.getElem_cons_zero])
  (try simp only [Act.put])
  (try simp only [List.setIfInBounds_toArray])
  (repeat (first | simp only [List.set_cons_succ] | simp only [List.set_cons_zero]))
  refine wpE_take (i := 3) (v := ?_) rfl (by kernel_rfl) (fun _ _ _ h => h) (Or.inl ⟨by kernel_rfl, ?_⟩) (by assumption) ?_
  rotate_left
  focus (intro w9 hS9; (try dsimp only at hS9); go_simp; (try with_reducible rfl))
  (try simp only [List.getElem_toArray, List.getElem_cons_succ, List.getElem_cons_zero])
  (try simp only [Act.put])
  (try simp only [List.setIfInBounds_toArray])
  (repeat (first | simp only [List.set_cons_succ] | simp only [List.set_cons_zero]))
  refine wpE_take (i := 4) (v := ?_) rfl (by kernel_rfl) (fun _ _ _ h => h) (Or.inl ⟨by kernel_rfl, ?_⟩) (by assumption) ?_
  rotate_left
  focus (intro w9 hS9; (try dsimp only at hS9); go_simp; (try with_reducible rfl))
  (try simp only [List.getElem_toArray, List.getElem_cons_succ, List.getElem_cons_zero])
  (try simp only [Act.put])
  (try simp only [List.setIfInBounds_toArray])
  (repeat (first | simp only [List.set_cons_succ] | simp only [List.set_cons_zero]))
  refine wpE_take (i := 5) (v := ?_) rfl (by kernel_rfl) (fun _ _ _ h => h) (Or.inl ⟨by kernel_rfl, ?_⟩) (by assumption) ?_
  rotate_left
  focus (intro w9 hS9; obtain ⟨z0, z1, z2, z3, z4, z5, z6⟩ := HL7.out w9 hS9; clear hS9; go_simp; (try with_reducible rfl))
  (try simp only [List.getElem_toArray, List.getElem_cons_succ, List.getElem_cons_zero])
  (try simp only [Act.put])
  (try simp only [List.setIfInBounds_toArray])
  (repeat (first | simp only [List.set_cons_succ] | simp only [List.set_cons_zero]))
  refine wpE_take (i := 6) (v := ?_) rfl (by kernel_rfl) (fun _ _ _ h => h) (Or.inl ⟨by kernel_rfl, ?_⟩) (by assumption) ?_
  rotate_left
  focus (intro w9 hS9; (try dsimp only at hS9); go_simp; (try with_reducible rfl))
  (try simp only [List.getElem_toArray, List.getElem_cons_succ, List.getElem_cons_zero])
  (try simp only [Act.put])
  (try simp only [List.setIfInBounds_toArray])
  (repeat (first | simp only [List.set_cons_succ] | simp only [List.set_cons_zero]))
  refine wpE_take (i := 7) (v := ?_) rfl (by kernel_rfl) (fun _ _ _ h => h) (Or.inl ⟨by kernel_rfl, ?_⟩) (by assumption) ?_
  rotate_left
  focus (intro w9 hS9; have z0 := HLD.out w9 hS9; clear hS9; go_simp; (try with_reducible rfl))
  (try simp only [List.getElem_toArray, List.getElem_cons_succ, List.getElem_cons_zero])
  (try simp only [Act.put])
  (try simp only [List.setIfInBounds_toArray])
  (repeat (first | simp only [List.set_cons_succ] | simp only [List.set_cons_zero]))
  refine wpE_take (i := 8) (v := ?_) rfl (by kernel_rfl) (fun _ _ _ h => h) (Or.inl ⟨by kernel_rfl, ?_⟩) (by assumption) ?_
  rotate_left
  focus (intro w9 hS9; (try dsimp only at hS9); go_simp; (try with_reducible rfl))
  (try simp only [List.getElem_toArray, List.getElem_cons_succ, List.getElem_cons_zero])
  (try simp only [Act.put])
  (try simp only [List.setIfInBounds_toArray])
  (repeat (first | simp only [List.set_cons_succ] | simp only [List.set_cons_zero]))
  refine wpE_take (i := 9) (v := ?_) rfl (by kernel_rfl) (fun _ _ _ h => h) (Or.inl ⟨by kernel_rfl, ?_⟩) (by assumption) ?_
  rotate_left
  focus (intro w9 hS9; (try dsimp only at hS9); go_simp; (try with_reducible rfl))
  (try simp only [List.getElem_toArray, List.getElem_cons_succ, List.getElem_cons_zero])
  (try simp only [Act.put])
  (try simp only [List.setIfInBounds_toArray])
  (repeat (first | simp only [List.set_cons_succ] | simp only [List.set_cons_zero]))
  refine wpE_take (i := 10) (v := ?_) rfl (by kernel_rfl) (fun _ _ _ h => h) (Or.inl ⟨by kernel_rfl, ?_⟩) (by assumption) ?_
  rotate_left
  focus (intro w9 hS9; (try dsimp only at hS9); go_simp; (try with_reducible rfl))
  (try simp only [List.getElem_toArray, List.getElem_cons_succ, List.getElem_cons_zero])
  (try simp only [Act.put])
  (try simp only [List.setIfInBounds_toArray])
  (repeat (first | simp only [List.set_cons_succ] | simp only [List.set_cons_zero]))
  refine wpE_take (i := 11) (v := ?_) rfl (by kernel_rfl) (fun _ _ _ h => h) (Or.inl ⟨by kernel_rfl, ?_⟩) (by assumption) ?_
  rotate_left
  focus (intro w9 hS9; have z0 := HL6.out w9 hS9; clear hS9; go_simp; (try with_reducible rfl))
  (try simp only [List.getElem_toArray, List.getElem_cons_succ, List.getElem_cons_zero])
  (try simp only [Act.put])
  (try simp only [List.setIfInBounds_toArray])
  (repeat (first | simp only [List.set_cons_succ] | simp only [List.set_cons_zero]))
  refine wpE_take (i := 12) (v := ?_) rfl (by kernel_rfl) (fun _ _ _ h => h) (Or.inl ⟨by kernel_rfl, ?_⟩) (by assumption) ?_
  rotate_left
  focus (intro w9 hS9; (try dsimp only at hS9); go_simp; (try with_reducible rfl))
  (try simp only [List.getElem_toArray, List.getElem_cons_succ, List.getElem_cons_zero])
  (try simp only [Act.put])
  (try simp only [List.setIfInBounds_toArray])
  (repeat (first | simp only [List.set_cons_succ] | simp only [List.set_cons_zero]))
  clear hHeld
  refine wpE_out (by kernel_rfl) ?_
  refine wpAny_ready (rs := [13]) (by kernel_rfl) (by simp) ?_
  refine AllReady.cons rfl (fun K hK => ?_) AllReady.nil
  rw [if_pos (show _ = true by kernel_rfl)]
  go_simp
  with_reducible refine (HMV1.out _ (Below.drew (Below.refl _ _))).mono ?_
  rintro r w8 ⟨rfl, ⟨v8, hd8⟩, hkm⟩
  have hk8 : DK w7.heap.size gd w7 w8 := ⟨fun j hj => hkm.same j hj, (Below.drew (Below.refl _ _)).trans hkm.bel⟩
  clear hkm HLC HLD HL7 HL6 HMV1
  refine hK _ _ ?_
  clear hK K
  (try simp only [List.getElem_toArray, List.getElem_cons_succ, List.getElem_cons_zero])
  (try simp only [Act.put])
  (try simp only [List.setIfInBounds_toArray])
  (repeat (first | simp only [List.set_cons_succ] | simp only [List.set_cons_zero]))
  refine wpAny_done (by kernel_rfl) ?_ _
  obtain ⟨a8, c8, rfl, -⟩ := hd8.own.form
  have hgB := hd8.lt
  have HY8 := Lib.hid (HY7.out.same fun j h1 h2 => hk8.same j ⟨by omega, by omega⟩)
  have HB8 := Lib.hid (show Below w.heap.size w w8 from HB7.out.trans (hk8.bel.mono (by omega)))
  have hs78 := hk8.bel.size
  have hp4 : (moveP c [] y (-y.c)).length ≤ 4 := Nat.le_trans (moveP_len c [] y (-y.c)) (by simp)
  have HEN := Lib.hid (enter_any w7.heap.size es (.slice ae es.length ce) kk tm _ _ w8 hs78 (HE.out.keep (fun j (hj : j < w.heap.size) => Nat.lt_of_lt_of_le hj HB7.out.size) (.of_below HB8.out)) hd8.own (by have := HKS.out; unfold maxLen; omega) HTM.out HBK.out.es (by have := HBK.out.len; simp only at this; omega) hp4 (moveP_pos _ _ _ _))
  obtain ⟨e0, e1, e2, -⟩ := blk3 hd8.box
  obtain ⟨d0, d1, -⟩ := blk2 HY8.out.b1
  clear hd8 hk8 hp4
  go_wp2_with (fail)
  with_reducible refine HEN.out.mono ?_
  clear HEN
  rintro r w9 ⟨⟨ve9, rfl, hs9⟩, hb9⟩
  have HY9 := Lib.hid (HY8.out.step hb9 (by have := HY7.out.b2; have := lt_of_heap this; omega))
  have HB9 := Lib.hid (HB8.out.trans (hb9.mono HB7.out.size))
  obtain ⟨⟨es9, z9⟩, hen⟩ : ∃ r, enterL es kk tm (moveP c [] y (-y.c)) = r := ⟨_, rfl⟩
  rw [hen] at hs9 ⊢
  simp only at hs9 ⊢
  obtain ⟨a9, c9, _, _, rfl, -⟩ := id hs9
  have HS9 := Lib.hid hs9
  have HEN := Lib.hid (show enterL es (keyC s (verN es s)) tm (moveP c [] y (-y.c)) = (es9, z9) by rw [hkk]; exact hen)
  have HRR := Lib.hid (vo_s (c := c) (b := ⟨es, ds⟩) HFS.out HMO.out HEN.out)
  have hl9 := lt_of_heap HY9.out.b2
  clear hs9 hb9 hen e0 e1 e2 d0 d1
  have m0 : w.heap.size < w9.heap.size := by omega
  have m1 : w.heap.size + 1 < w9.heap.size := by omega
  have m2 : w.heap.size + 1 + 1 < w9.heap.size := by omega
  obtain ⟨d0, d1, -⟩ := blk2 HY9.out.b1
  obtain ⟨f0, f1, ff⟩ := blk2 HY9.out.b2
  have f0' : w9.cell? ⟨w.heap.size + 1 + 1, 0, none⟩ = some (.slice none 0 0) := f0
  have f1' : w9.cell? ⟨w.heap.size + 1 + 1, 1, none⟩ = some (.slice none 0 0) := f1
  have ff' : ∀ j, w9.frozen? ⟨w.heap.size + 1 + 1, j, none⟩ = false := ff
  clear f0 f1 ff
  by_cases hz9 : z9 = 0
  case neg =>
    have HR := Lib.hid (HRR.out.trans (if_pos hz9))
    have hz1 : (z9 != 0) = true := by simpa using hz9
    clear hz9
    go_wp2
    have g5 := alloc1_old (.cells #[.slice a9 es9.length c9] 68) (show ((w9.setCell ⟨w.heap.size + 1 + 1, 0, none⟩ (.slice ae es.length ce)).setCell ⟨w.heap.size + 1 + 1, 1, none⟩ (.slice (some ⟨bd, od, none⟩) ds.length cd)).heap[w.heap.size + 1 + 1]? = some (.cells #[(.slice ae es.length ce), (.slice (some ⟨bd, od, none⟩) ds.length cd)] 70 (0, 0)) from heap_setCell_same _ _ _ _ _ _ (heap_setCell_same _ _ _ _ _ _ HY9.out.b2))
    have b5 : Below w.heap.size w (((w9.setCell ⟨w.heap.size + 1 + 1, 0, none⟩ (.slice ae es.length ce)).setCell ⟨w.heap.size + 1 + 1, 1, none⟩ (.slice (some ⟨bd, od, none⟩) ds.length cd)).alloc (.cells #[.slice a9 es9.length c9] 68)) := bl_alloc (bl_set (bl_set HB9.out _ (by simp only; omega)) _ (by simp only; omega)) _
    obtain ⟨k0, k1, -⟩ := blk2 g5
    generalize ((w9.setCell ⟨w.heap.size + 1 + 1, 0, none⟩ (.slice ae es.length ce)).setCell ⟨w.heap.size + 1 + 1, 1, none⟩ (.slice (some ⟨bd, od, none⟩) ds.length cd)).alloc (.cells #[.slice a9 es9.length c9] 68) = wz at *
    refine bodyPost_ret (v := .tuple #[.agg #[(.slice ae es.length ce), (.slice (some ⟨bd, od, none⟩) ds.length cd)], .int .i64 z9]) (by simp [results, Tryz.results31, go_sem, k0, k1]) rfl ?_
    rw [HR.out]
    exact BookE.old (by simpa using hz1) HE.out HD.out b5
  subst hz9
  have HR := Lib.hid (HRR.out.trans (if_neg (by simp)))
  clear HRR
  have hes9 := enter_es HEN.out HBK.out.len HBK.out.es (Nat.le_trans (keyC_size (s := s) HSK.out (n_ok (Nat.le_trans ver_le HBK.out.len) (by omega))) (by omega)) (Nat.le_trans (moveP_len c [] y (-y.c)) (by simp))
  have hds8 := HBK.out.ds
  simp only at hds8
  have hAl := bl_alloc (Below.refl w9.heap.size w9) (.cells #[.slice a9 es9.length c9] 68)
  have HCL := Lib.hid (bclone_any es9 ds (.slice a9 es9.length c9) (.slice (some ⟨bd, od, none⟩) ds.length cd) (w9.alloc (.cells #[.slice a9 es9.length c9] 68)) (HS9.out.step hAl) (HD.out.keep (fun j (hj : j < w.heap.size) => Nat.lt_of_lt_of_le hj (Nat.le_trans HB9.out.size hAl.size)) (.of_below (HB9.out.trans (hAl.mono HB9.out.size)))) (by omega) (by omega) (fun e he => by have := (hes9.2 e he).ps; omega) (fun y hy => by have := (HBK.out.cok y hy).ls; omega))
  have HBA := Lib.hid (HB9.out.trans (hAl.mono HB9.out.size))
  have HYA := Lib.hid (HY9.out.step hAl hl9)
  clear hes9 hAl
  go_wp2_with (fail)
  with_reducible refine HCL.out.mono ?_
  clear HCL
  rintro r w11 ⟨ve2, vd2, m, rfl, hm, hm11, hs2, hn2, hb11⟩
  obtain ⟨ae2, ce2, _, _, rfl, -⟩ := id hs2
  obtain ⟨ad2, cd2, rfl, hcd2, hcd3⟩ := hn2.form
  have HY11 := Lib.hid (HYA.out.step hb11 (by have := lt_of_heap HYA.out.b2; omega))
  have HB11 := Lib.hid (bl_trans HBA.out hb11)
  have HSE := Lib.hid (show SlIs (tEnt 101) (fun j => w.heap.size + 3 ≤ j ∧ j < w11.heap.size ∧ j < m) w11 (.slice ae2 es9.length ce2) es9 from hs2.keep (fun j hj => ⟨by have h1 := hj.1; simp only [World.size_alloc] at h1; omega, Nat.lt_of_lt_of_le hj.2 hm11, hj.2⟩) (SameOn.refl _ _))
  have HND := Lib.hid hn2
  have hm9 : w9.heap.size + 1 ≤ m := by simpa using hm
  clear hs2 hn2 hb11 hm d0 d1 f0' f1' ff' HBA HYA
  have h11 : w.heap.size + 2 < w11.heap.size := lt_of_heap HY11.out.b2
  have hbB := bl_alloc (Below.refl w11.heap.size w11) (.cells #[.slice ae2 es9.length ce2, .slice ad2 ds.length cd2] 70)
  have gB := heap_alloc_new w11 (.cells #[.slice ae2 es9.length ce2, .slice ad2 ds.length cd2] 70)
  go_upto_region 13 with (fail)
  generalize w11.alloc (.cells #[.slice ae2 es9.length ce2, .slice ad2 ds.length cd2] 70) = w12 at hbB gB ⊢
  have HY12 := Lib.hid (HY11.out.step hbB h11)
  have HBO := Lib.hid hbB
  have HB12 := Lib.hid (bl_trans HB11.out hbB)
  have HND2 := Lib.hid (NewL.ownS HND.out)
  have HG12 := Lib.hid (show BB w11.heap.size (.slice ae2 es9.length ce2) (.slice ad2 ds.length cd2) w12 from gB)
  have h12 := hbB.size
  have h12' := lt_of_heap gB
  have HDEL := Lib.hid (del_some (l := ds) (s := s) (k := k) hk HKEY.out HBK.out.sort)
  have HOW := Lib.hid (HND2.out.own_lt)
  have HDC := Lib.hid (delete_any m (fun q => m ≤ q ∧ q < w11.heap.size ∧ some q ≠ (Value.slice ad2 ds.length cd2).ownBlock) ds (.slice ad2 ds.length cd2) k w12 (HND2.out.below (fun q hq => hq.2.1) hbB) (fun q hq => ⟨by omega, hq.2.2⟩) (by omega) hk)
  clear hbB gB HND HY11
  obtain ⟨r0, r1, rf⟩ := blk2 HG12.out
  have hk1 : IntKind.i64.wrap ((k : Int) + 1) = (k : Int) + 1 := wrap_in (by omega) (by omega)
  go_wp2_with (fail)
  with_reducible refine HDC.out.mono ?_
  clear HDC
  rintro r w15 ⟨v15, rfl, hs15, hg15⟩
  obtain ⟨a15, c15, _, _, rfl, -⟩ := id hs15
  rw [HDEL.out] at hs15
  have hown := HOW.out
  have hz15 := hg15.size
  have hbl15 : Below w.heap.size w w15 := HB12.out.grown hg15 HB12.out.size (fun q hq => by have := (hown q hq).1; omega)
  have gB15 : BB w11.heap.size (.slice ae2 es9.length ce2) (.slice ad2 ds.length cd2) w15 := (hg15.block _ (by omega) (fun e => by have := (hown _ e.symm).2; omega)).trans HG12.out
  have g215 : BB (w.heap.size + 2) (.slice none 0 0) (.slice none 0 0) w15 := (hg15.block _ (by omega) (fun e => by have := (hown _ e.symm).1; omega)).trans HY12.out.b2
  have hse : SlIs (tEnt 101) (fun q => w.heap.size + 3 ≤ q ∧ q < w11.heap.size ∧ q < m) w15 (.slice ae2 es9.length ce2) es9 := HSE.out.keep (fun _ h => h) (fun q hq => (hg15.block q (by omega) (fun e => by have := (hown _ e.symm).1; omega)).trans (HBO.out.block q hq.2.1))
  obtain ⟨ds', hds'⟩ : ∃ l, (ds.filter fun x => !decide (x.key = s)) = l := ⟨_, rfl⟩
  rw [hds'] at hs15 HR
  have hpl : (ds.take k ++ ds.drop (k + 1)).length = ds'.length := by rw [HDEL.out, hds']
  rw [hpl]
  have HSE15 := Lib.hid hse
  have HSD15 := Lib.hid hs15
  have HB15 := Lib.hid hbl15
  have HG15 := Lib.hid gB15
  have HT15 := Lib.hid g215
  clear r0 r1 rf hpl
  obtain ⟨r0, r1, rf⟩ := blk2 gB15
  obtain ⟨s0, s1, sf⟩ := blk2 g215
  have s0' : w15.cell? ⟨w.heap.size + 1 + 1, 0, none⟩ = some (.slice none 0 0) := s0
  have s1' : w15.cell? ⟨w.heap.size + 1 + 1, 1, none⟩ = some (.slice none 0 0) := s1
  have sf' : ∀ q, w15.frozen? ⟨w.heap.size + 1 + 1, q, none⟩ = false := sf
  have hl15 : w11.heap.size < w15.heap.size := by omega
  have hl16 : w.heap.size + 1 + 1 < w15.heap.size := by omega
  have hl17 : w.heap.size + 1 + 1 ≠ w11.heap.size := by omega
  clear hs15 hg15 hbl15 gB15 g215 hse s0 s1 sf
  go_wp2
  have HT16 := Lib.hid (show BB (w.heap.size + 2) (.slice none 0 0) (.slice none 0 0) (w15.setCell ⟨w11.heap.size, 1, none⟩ (.slice a15 ds'.length c15)) from (Below.heap_setCell _ _ _ _ (by simp only; omega)).trans HT15.out)
  have HB16 := Lib.hid (show Below w.heap.size w (w15.setCell ⟨w11.heap.size, 1, none⟩ (.slice a15 ds'.length c15)) from bl_set HB15.out _ (by simp only; omega))
  have HSE16 := Lib.hid (show SlIs (tEnt 101) (fun q => w.heap.size + 3 ≤ q ∧ q < w11.heap.size) (w15.setCell ⟨w11.heap.size, 1, none⟩ (.slice a15 ds'.length c15)) (.slice ae2 es9.length ce2) es9 from HSE15.out.keep (fun q hq => ⟨hq.1, hq.2.1⟩) (fun q hq => Below.heap_setCell _ _ _ _ (by simp only; omega)))
  have HSD16 := Lib.hid (show SlIs (tChg eL) (fun q => w.heap.size + 3 ≤ q ∧ q < w15.heap.size) (w15.setCell ⟨w11.heap.size, 1, none⟩ (.slice a15 ds'.length c15)) (.slice a15 ds'.length c15) ds' from HSD15.out.keep (fun q hq => ⟨by rcases hq.1 with q1 | q1 | q1 <;> first | omega | (have := (hown _ q1.symm).1; omega), hq.2⟩) (fun q hq => Below.heap_setCell _ _ _ _ (by
    rcases hq.1 with q1 | q1 | q1
    · simp only; omega
    · simp only; omega
    · have := (hown _ q1.symm).2; simp only; omega)))
  have hz16 : w15.heap.size = (w15.setCell ⟨w11.heap.size, 1, none⟩ (.slice a15 ds'.length c15)).heap.size := by simp
  clear r0 r1 rf s0' s1' sf' HSE15 HSD15 HB15 HG15 HT15
  generalize w15.setCell ⟨w11.heap.size, 1, none⟩ (.slice a15 ds'.length c15) = w16 at *
  have g5 : ((w16.setCell ⟨w.heap.size + 1 + 1, 0, none⟩ (.slice ae2 es9.length ce2)).setCell ⟨w.heap.size + 1 + 1, 1, none⟩ (.slice a15 ds'.length c15)).heap[w.heap.size + 1 + 1]? = some (.cells #[(.slice ae2 es9.length ce2), (.slice a15 ds'.length c15)] 70 (0, 0)) := heap_setCell_same _ _ _ _ _ _ (heap_setCell_same _ _ _ _ _ _ HT16.out)
  have b5 : Below w.heap.size w ((w16.setCell ⟨w.heap.size + 1 + 1, 0, none⟩ (.slice ae2 es9.length ce2)).setCell ⟨w.heap.size + 1 + 1, 1, none⟩ (.slice a15 ds'.length c15)) := bl_set (bl_set HB16.out _ (by simp only; omega)) _ (by simp only; omega)
  have hoth : ∀ q, w.heap.size + 3 ≤ q → ((w16.setCell ⟨w.heap.size + 1 + 1, 0, none⟩ (.slice ae2 es9.length ce2)).setCell ⟨w.heap.size + 1 + 1, 1, none⟩ (.slice a15 ds'.length c15)).heap[q]? = w16.heap[q]? := fun q hq => (Below.heap_setCell _ _ _ _ (by simp only; omega)).trans (Below.heap_setCell _ _ _ _ (by simp only; omega))
  have hz17 : w16.heap.size = ((w16.setCell ⟨w.heap.size + 1 + 1, 0, none⟩ (.slice ae2 es9.length ce2)).setCell ⟨w.heap.size + 1 + 1, 1, none⟩ (.slice a15 ds'.length c15)).heap.size := by simp
  obtain ⟨k0, k1, -⟩ := blk2 g5
  generalize (w16.setCell ⟨w.heap.size + 1 + 1, 0, none⟩ (.slice ae2 es9.length ce2)).setCell ⟨w.heap.size + 1 + 1, 1, none⟩ (.slice a15 ds'.length c15) = wf at *
  refine bodyPost_ret (v := .tuple #[.agg #[(.slice ae2 es9.length ce2), (.slice a15 ds'.length c15)], .int .i64 0]) (by simp [results, Tryz.results31, go_sem, k0, k1]) rfl ?_
  rw [HR.out]
  exact ⟨(.slice ae2 es9.length ce2), (.slice a15 ds'.length c15), rfl, HSE16.out.keep (fun q hq => ⟨fun _ => by omega, by omega⟩) (fun q hq => hoth q hq.1), HSD16.out.keep (fun q hq => ⟨fun _ => by omega, by omega⟩) (fun q hq => hoth q hq.1), b5, fun h => absurd rfl h⟩
end Go.Proofs.YtifcelebfagjbaaGreatDoor
