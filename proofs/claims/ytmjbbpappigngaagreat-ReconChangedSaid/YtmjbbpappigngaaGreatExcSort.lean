/-
  Layer 42 (agency): sorting records by their keys, in a slice of the call's own.
-/
import Derived.Test.YtmjbbpappigngaaGreatExcNet
import Derived.Test.YtmjbbpappigngaaGreatShelf
import Derived.Test.YtmjbbpappigngaaGreatShelf2
namespace Go.Tw.Exc
open Go.RowKit Go.Tw Go.Sort
instance : Inhabited Rec := ⟨newR ByteArray.empty⟩
theorem cb_self : ∀ a : List UInt8, Lib.compareBytes a a = 0
  | [] => rfl
  | x :: a => by
    rw [Lib.compareBytes, if_neg (by simp), if_neg (by simp)]
    exact cb_self a
theorem cb_trans : ∀ a b c : List UInt8, Lib.compareBytes a b < 0 → Lib.compareBytes b c < 0 → Lib.compareBytes a c < 0
  | [], _, [], _, h => by
    rename_i b _
    cases b with
    | nil => exact h
    | cons y b => simp [Lib.compareBytes] at h
  | [], _, _ :: _, _, _ => by simp [Lib.compareBytes]
  | x :: a, [], _, h, _ => by simp [Lib.compareBytes] at h
  | x :: a, y :: b, [], _, h => by simp [Lib.compareBytes] at h
  | x :: a, y :: b, z :: c, h, k => by
    rw [Lib.compareBytes] at h k ⊢
    simp only [UInt8.lt_iff_toNat_lt] at h k ⊢
    by_cases h1 : x.toNat < y.toNat
    · by_cases k1 : y.toNat < z.toNat
      · rw [if_pos (by omega)]; decide
      · rw [if_neg k1] at k
        by_cases k2 : z.toNat < y.toNat
        · rw [if_pos k2] at k; omega
        · rw [if_pos (by omega)]; decide
    · rw [if_neg h1] at h
      by_cases h2 : y.toNat < x.toNat
      · rw [if_pos h2] at h; omega
      · rw [if_neg h2] at h
        by_cases k1 : y.toNat < z.toNat
        · rw [if_pos (by omega)]; decide
        · rw [if_neg k1] at k
          by_cases k2 : z.toNat < y.toNat
          · rw [if_pos k2] at k; omega
          · rw [if_neg k2] at k
            rw [if_neg (by omega), if_neg (by omega)]
            exact cb_trans a b c h k
theorem cb_ntrans : ∀ a b c : List UInt8, 0 ≤ Lib.compareBytes a b → 0 ≤ Lib.compareBytes b c → 0 ≤ Lib.compareBytes a c
  | [], [], _, _, k => k
  | [], _ :: _, _, h, _ => by simp [Lib.compareBytes] at h
  | _ :: _, _, [], _, _ => by simp [Lib.compareBytes]
  | _ :: _, [], _ :: _, _, k => by simp [Lib.compareBytes] at k
  | x :: a, y :: b, z :: c, h, k => by
    rw [Lib.compareBytes] at h k ⊢
    simp only [UInt8.lt_iff_toNat_lt] at h k ⊢
    by_cases h1 : x.toNat < y.toNat
    · rw [if_pos h1] at h; omega
    · rw [if_neg h1] at h
      by_cases k1 : y.toNat < z.toNat
      · rw [if_pos k1] at k; omega
      · rw [if_neg k1] at k
        rw [if_neg (by omega)]
        by_cases h3 : z.toNat < x.toNat
        · rw [if_pos h3]; decide
        · rw [if_neg h3]
          rw [if_neg (by omega)] at h k
          exact cb_ntrans a b c h k
def cfK (x y : Rec) : Int := Lib.compareBytes x.key.data.toList y.key.data.toList
end Go.Tw.Exc
namespace Go.Proofs.YtmjbbpappigngaaGreat
open Go.RowKit Go.Tw Go.Tw.Exc Go.Sort
theorem swoK : SWO (ltOf cfK) where
  irrefl x := by unfold ltOf cfK; rw [cb_self]; rfl
  trans x y z h1 h2 := by unfold ltOf cfK at *; simp only [decide_eq_true_eq] at *; exact cb_trans _ _ _ h1 h2
  ntrans x y z h1 h2 := by unfold ltOf cfK at *; simp only [decide_eq_false_iff_not, Int.not_lt] at *; exact cb_ntrans _ _ _ h1 h2
set_option maxHeartbeats 1000000 in
theorem cmp_any (x y : Rec) (w : World) : Calls Tryz.prog 76 #[.agg (recCells x).toArray, .agg (recCells y).toArray] w fun e w' => e = .returned (.int .i64 (cfK x y)) ∧ ∃ q os', w' = grow (w.drewN q) os' := by
  have hcon := fun W => Tryz.strings_Compare x.key y.key W
  unfold cfK
  obtain ⟨r, hr⟩ : ∃ r, Lib.compareBytes x.key.data.toList y.key.data.toList = r := ⟨_, rfl⟩
  rw [hr]
  simp only [hr] at hcon
  clear hr
  show Calls Tryz.prog 76 #[.agg #[.int .i64 x.k, .string x.key, .int .i64 x.t, .int .i64 x.c, .int .i64 x.y], .agg #[.int .i64 y.k, .string y.key, .int .i64 y.t, .int .i64 y.c, .int .i64 y.y]] w _
  go_enter Tryz.func76, Tryz.ntmps76
  go_wp2_with (go_at_call 77; refine (hcon _).mono ?_; rintro e w' ⟨rfl, rfl⟩)
  go_ret
  exact ⟨rfl, 0, _, by rw [alloc_eq_grow, alloc_eq_grow, grow_grow]; rfl⟩
theorem recCells_len (x : Rec) : (recCells x).length = 5 := rfl
theorem recCells_one (x : Rec) : ∀ v ∈ recCells x, v.oneCell' = true := by
  intro v hv
  unfold recCells at hv
  simp only [List.mem_cons, List.not_mem_nil, or_false] at hv
  rcases hv with rfl | rfl | rfl | rfl | rfl <;> rfl
theorem holdsRec {w : World} {g : Nat} {t : TypeId} {A : Array Value} {l : List Rec} (h : w.heap[g]? = some (.cells A t (0, 0))) (hA : ∀ k j, k < l.length → j < 5 → A[k * 5 + j]? = (recCells (l.getD k default))[j]?) : HoldsK recCells 5 w g 0 l.toArray := by
  intro t' ht
  have ht' : t' < l.length * 5 := by simpa using ht
  refine ⟨?_, frozen_of_row _ _ _ _ _ h⟩
  rw [cell_of_row _ _ _ _ _ _ h, Nat.zero_add, get_flatK _ _ _ _ (by simpa using ht')]
  have hk : t' / 5 < l.length := by omega
  have hj : t' % 5 < 5 := Nat.mod_lt _ (by decide)
  have := hA (t' / 5) (t' % 5) hk hj
  rw [show t' / 5 * 5 + t' % 5 = t' by omega] at this
  rw [this]
  have e : l.toArray[t' / 5]! = l.getD (t' / 5) default := by
    rw [getElem!_pos l.toArray _ (by simpa using hk), List.getD_eq_getElem?_getD, List.getElem?_eq_getElem hk]
    simp
  rw [e]
  rw [List.getElem?_eq_getElem (by rw [recCells_len]; exact hj)]
  show some _ = some _
  rw [getElem!_pos (recCells _) (t' % 5) (by rw [recCells_len]; exact hj)]
  rfl
theorem slRec_of {w : World} {g cap : Nat} {l : List Rec} {S : Nat → Prop} (h : HoldsK recCells 5 w g 0 l.toArray) (hg : g < w.heap.size) (hS : S g) (hc : l.length ≤ cap) (hm : cap ≤ maxLen) (hok : ∀ r ∈ l, RecOk r) : SlIs tRec S w (.slice (some ⟨g, 0, none⟩) l.length cap) l := by
  refine ⟨some ⟨g, 0, none⟩, cap, g, 0, rfl, hc, hm, fun e => (by cases e), fun k hk => ⟨rfl, hS, hg, recCells l[k], fun j hj => ?_, tRec_mk (hok _ (List.getElem_mem hk))⟩⟩
  have hj5 : j < 5 := hj
  have := (h (k * 5 + j) (by simp; omega)).1
  rw [Nat.zero_add] at this
  show w.cell? ⟨g, 0 + k * 5 + j, none⟩ = _
  rw [show 0 + k * 5 + j = k * 5 + j by omega, this, get_flatK _ _ _ _ (by simp; omega), show (k * 5 + j) / 5 = k by omega, show (k * 5 + j) % 5 = j by omega]
  rw [getElem!_pos l.toArray k (by simpa using hk)]
  rw [List.getElem?_eq_getElem (by rw [recCells_len]; exact hj5)]
  show some (id _) = some _
  rw [getElem!_pos _ j (by rw [recCells_len]; exact hj5)]
  simp
theorem sortWorld_at {α : Type} [Inhabited α] (enc : α → Value) (w : World) (blk off m : Nat) (dk : Array α) (os : Array Obj) {k : Nat} (hk : k < w.heap.size) (hne : k ≠ blk) :
    (sortWorld enc w blk off m dk os).heap[k]? = w.heap[k]? := by
  have h1 : (Sort.putRow enc (Sort.ahead w m) blk off dk).heap[k]? = w.heap[k]? := by
    unfold Sort.putRow Sort.mapBlock
    rw [show ∀ (h : Array Obj) (f : Obj → Obj), (h.modify blk f)[k]? = h[k]? from fun h f => by
      rw [Array.getElem?_modify, if_neg (fun e => hne e.symm)]]
    rfl
  have h2 : k < (Sort.putRow enc (Sort.ahead w m) blk off dk).heap.size := by
    unfold Sort.putRow Sort.mapBlock
    simp
    exact hk
  unfold sortWorld
  rw [Sort.heap_grow_old _ _ h2, h1]

theorem sortWorldK_below (w : World) (blk off m : Nat) (dk : Array Rec) (os : Array Obj) {B : Nat} (hB : B ≤ w.heap.size) (hb : B ≤ blk) : Below B w (sortWorldK recCells 5 w blk off m dk os) :=
  ⟨rfl, rfl, rfl, by
    unfold sortWorldK Sort.grow putRowK Sort.putRow Sort.mapBlock Sort.ahead
    simp, fun k hk => sortWorld_at id w blk off m _ os (by omega) (by omega)⟩
theorem perm_ofR {d d' : Array Rec} (h : PermIn 0 d.size d d') : d'.toList.Perm d.toList := by
  have := h.2.2
  rw [Array.extract_size] at this
  rw [show d'.extract 0 d.size = d' by rw [← h.1, Array.extract_size]] at this
  exact this
/-- the sorted slice -/
def SortE (B : Nat) (l : List Rec) (v : Value) (w : World) (e : Ending) (w' : World) : Prop := e = .returned (.tuple #[]) ∧ (∃ l', l'.Perm l ∧ SlIs tRec (· < w'.heap.size) w' v l') ∧ Below B w w' ∧ w.heap.size ≤ w'.heap.size
set_option maxHeartbeats 1000000 in
theorem sort_any (l : List Rec) (v : Value) (B : Nat) (w : World) (h : OwnSl tRec 49 B w v l) (hB : B ≤ w.heap.size) (hlen : l.length ≤ 1000000) :
    Calls Tryz.prog 75 #[v, .func (.func 76) #[] #[]] w (SortE B l v w) := by
  have hsl := h.sl
  obtain ⟨css, h1, h2⟩ := h
  rcases h1.2 with ⟨q, hz⟩ | ⟨g, cap, cur, q, q1, q2, q3, q4, q5, q6⟩
  · obtain rfl : l = [] := List.eq_nil_of_length_eq_zero hz
    subst q
    refine (AnyF.slices_SortFunc_none Tryz.sortRec none 0 _ w).mono ?_
    rintro e w' ⟨rfl, rfl⟩
    exact ⟨rfl, ⟨[], List.Perm.refl _, SlIs.nil⟩, Below.refl _ _, Nat.le_refl _⟩
  · subst q
    have hokA : ∀ r ∈ l, RecOk r := fun r hr => by
      obtain ⟨k, hk, rfl⟩ := List.getElem_of_mem hr
      obtain ⟨_, _, _, _, _, _, _, ho⟩ := rec_open hsl
      exact (ho w (SameOn.refl _ _) k hk).2.2.2.1
    have hH : HoldsK recCells 5 w g 0 l.toArray := holdsRec q2 (fun k j hk hj => by
      obtain ⟨cs, c1, c2, c3⟩ := h2.at.2 k hk
      obtain ⟨rfl, -⟩ := tRec_is c2
      rw [List.getD_eq_getElem?_getD, List.getElem?_eq_getElem hk, Option.getD_some, ← c3 j hj, ← q6, List.getElem?_take, if_pos (by show k * 5 + j < l.length * 5; omega), Array.getElem?_toList]
      rfl)
    have hcon := AnyQ.slices_SortFunc Tryz.sortRec 5 Tryz.isAgg49 Tryz.sizeOf49 recCells recCells_len recCells_one cfK swoK 76 #[] g 0 cap l.toArray w (enters_of Tryz.func76 (by kernel_rfl) rfl) (fun _ _ _ _ x y => cmp_any x y _) hH (lt_of_heap q2) (by simp; omega)
    refine hcon.mono ?_
    rintro e w' ⟨rfl, d', n, os, hp, -, rfl⟩
    have hperm := perm_ofR hp
    have hds : d'.size = l.toArray.size := hp.1
    have hsz := size_sortWorldK_c recCells 5 w g 0 n d' os
    have hH2 := holdsK_sortWorldK_c recCells 5 w g 0 l.toArray d' n os hH (lt_of_heap q2) hds
    have hlen' : d'.toList.length = l.length := by simpa using hds
    refine ⟨rfl, ⟨d'.toList, hperm, ?_⟩, sortWorldK_below w g 0 n d' os hB q1, hsz⟩
    have := slRec_of (S := (· < (sortWorldK recCells 5 w g 0 n d' os).heap.size)) (cap := cap) (l := d'.toList) (by simpa using hH2) (Nat.lt_of_lt_of_le (lt_of_heap q2) hsz) (Nat.lt_of_lt_of_le (lt_of_heap q2) hsz) (by rw [hlen']; exact q3) q4 (fun r hr => hokA r (hperm.mem_iff.1 hr))
    rw [hlen'] at this
    exact this
end Go.Proofs.YtmjbbpappigngaaGreat
