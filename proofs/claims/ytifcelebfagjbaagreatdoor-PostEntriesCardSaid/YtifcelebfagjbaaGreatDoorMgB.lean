/-
  Slices of the call's own: cut short. No program in sight.
-/
import Derived.Test.YtifcelebfagjbaaGreatDoorMgA
import Derived.Laws.MakeOwn
import Derived.Laws.BytesArg
import Derived.Sort.LotA
import Derived.Shelf.SlSortCmp.Insertion
namespace Go.Tw
open Go.RowKit
variable {α : Type} {T : Ty α} {e : TypeId} {F : List Nat} {w w' : World} {v : Value} {l : List α}
theorem OwnL.formS (h : OwnL T e F w v l) (hl : 0 < l.length) : ∃ g cap, v = .slice (some ⟨g, 0, none⟩) l.length cap ∧ g ∈ F ∧ l.length ≤ cap ∧ cap ≤ maxLen := by
  obtain ⟨css, Fs, h1, h2, rfl⟩ := h
  rcases h1.2 with ⟨h, h'⟩ | ⟨g, cap, cur, rfl, _, _, h3, h4, _⟩
  · omega
  · exact ⟨g, cap, rfl, by simp [Value.ownBlock], h3, h4⟩
/-- s[:k] of a slice of the call's own -/
theorem OwnSl.take {B : Nat} {ao : Option Addr} {n cap k : Nat} (h : OwnSl T e B w (.slice ao n cap) l) (hk : k ≤ l.length) : OwnSl T e B w (.slice ao k cap) (l.take k) := by
  obtain ⟨css, h1, h2⟩ := h
  have key : ∀ (S : Nat → Prop) (k : Nat) (css : List (List Value)) (l : List α), AllIs T S w css l → k ≤ l.length → ∃ cst, AllIs T S w cst (l.take k) ∧ cst.flatten = css.flatten.take (k * T.sz) := by
    intro S k
    induction k with
    | zero => exact fun css l h hk => ⟨[], by rw [List.take_zero]; trivial, by simp⟩
    | succ k ih =>
      intro css l h hk
      match css, l, h with
      | c :: css, x :: l, h =>
        obtain ⟨cst, g1, g2⟩ := ih css l h.2 (by simpa using hk)
        refine ⟨c :: cst, ⟨h.1, g1⟩, ?_⟩
        have hc := T.len h.1
        rw [List.flatten_cons, List.flatten_cons, g2, Nat.succ_mul, Nat.add_comm, ← hc, List.take_length_add_append]
      | [], [], _ => simp at hk
  obtain ⟨cst, g1, g2⟩ := key _ _ _ _ h2 hk
  have hle : k * T.sz ≤ l.length * T.sz := Nat.mul_le_mul_right _ hk
  have hkl : (l.take k).length = k := by rw [List.length_take, Nat.min_eq_left hk]
  refine ⟨cst, ⟨by rw [g2, List.length_take, h1.1, hkl, Nat.min_eq_left hle], ?_⟩, ?_⟩
  · rcases h1.2 with ⟨h, h'⟩ | ⟨g, cap', cur, h, q1, q2, q3, q4, q5, q6⟩
    · simp only [Value.slice.injEq] at h
      obtain ⟨rfl, rfl, rfl⟩ := h
      exact .inl ⟨by rw [show k = 0 by omega], by omega⟩
    · simp only [Value.slice.injEq] at h
      obtain ⟨rfl, rfl, rfl⟩ := h
      refine .inr ⟨g, cap, cur, by rw [hkl], q1, q2, by omega, q4, q5, ?_⟩
      rw [hkl, g2, ← q6, List.take_take, Nat.min_eq_left hle]
  · rw [show (Value.slice ao k cap).ownBlock = (Value.slice ao n cap).ownBlock by cases ao <;> rfl]
    exact g1
end Go.Tw
/-
  Blocks of numbers, known whole; bytes of strings as numbers. No program in sight.
-/
namespace Go.Tw
open Go.RowKit

def ints (l : List Int) : Array Value := (l.map (Value.int .i64)).toArray
/-- block g holds the numbers l -/
def Row (t : TypeId) (w : World) (g : Nat) (l : List Int) : Prop := w.heap[g]? = some (.cells (ints l) t (0, 0))
section
variable {t : TypeId} {w w' : World} {g : Nat} {l : List Int}
theorem Row.lt (h : Row t w g l) : g < w.heap.size := lt_of_heap h
theorem Row.cell (h : Row t w g l) {k : Nat} (hk : k < l.length) : w.cell? ⟨g, k, none⟩ = some (.int .i64 l[k]) := by
  simp [World.cell?, show w.heap[g]? = _ from h, ints, hk]
theorem Row.free (h : Row t w g l) (k : Nat) : w.frozen? ⟨g, k, none⟩ = false := frozen_of_row _ _ k _ _ h
theorem Row.keep (h : Row t w g l) (hw : w'.heap[g]? = w.heap[g]?) : Row t w' g l := hw.trans h
theorem Row.below (h : Row t w g l) (hb : Below w.heap.size w w') : Row t w' g l := h.keep (hb.block g h.lt)
theorem Row.alloc (h : Row t w g l) (o : Obj) : Row t (w.alloc o) g l := h.keep (Below.heap_alloc _ _ _ h.lt)
theorem Row.drewN (h : Row t w g l) (n : Nat) : Row t (w.drewN n) g l := h
theorem Row.drew (h : Row t w g l) : Row t w.drew g l := h
theorem Row.set (h : Row t w g l) (i : Nat) (x : Int) : Row t (w.setCell ⟨g, i, none⟩ (.int .i64 x)) g (l.set i x) := by
  have := heap_setCell_same _ _ i _ _ (.int .i64 x) h
  unfold Row
  rw [this]
  congr 2
  simp [ints, List.map_set]
theorem Row.other (h : Row t w g l) {a : Addr} (ha : a.block ≠ g) (v : Value) : Row t (w.setCell a v) g l := h.keep (Below.heap_setCell _ _ _ _ fun e => ha e.symm)
theorem ints_made (n : Nat) : madeCells #[.int .i64 0] n = ints (List.replicate n 0) := by
  apply Array.ext
  · simp [madeCells, ints]
  · intro i h1 h2
    simp [madeCells, ints, Nat.mod_one]
theorem Row.made (w : World) (n : Nat) : Row t (w.alloc (.cells (madeCells #[.int .i64 0] n) t)) w.heap.size (List.replicate n 0) := by
  rw [ints_made]
  exact heap_alloc_new _ _
theorem Row.allIs (hl : ∀ x ∈ l, i64ok x) {S : Nat → Prop} : AllIs tInt S w (l.map fun x => [.int .i64 x]) l := by
  induction l with
  | nil => trivial
  | cons x l ih => exact ⟨⟨rfl, hl x (by simp)⟩, ih fun y hy => hl y (by simp [hy])⟩
theorem Row.sl (h : Row t w g l) (hl : ∀ x ∈ l, i64ok x) (hm : l.length ≤ maxLen) : SlIs tInt (· < w.heap.size) w (.slice (some ⟨g, 0, none⟩) l.length l.length) l := by
  have fl : ∀ l : List Int, (l.map fun x => [Value.int .i64 x]).flatten = l.map (Value.int .i64) := fun l => by induction l with
    | nil => rfl
    | cons x l ih => simp [ih]
  exact SlIs.of_block (css := l.map fun x => [.int .i64 x]) h ⟨[], by simp [ints, fl]⟩ (Row.allIs hl) h.lt (Nat.le_refl _) hm
end

/-- the bytes of a string, as numbers -/
def codes (s : ByteArray) : List Int := s.data.toList.map fun c => (c.toNat : Int)
theorem codes_len (s : ByteArray) : (codes s).length = s.size := by simp [codes]
theorem codes_get (s : ByteArray) {k : Nat} (h : k < s.size) : (codes s)[k]'(by rw [codes_len]; exact h) = (s[k].toNat : Int) := by
  simp only [codes, List.getElem_map, Array.getElem_toList]
  rfl
def isByte (n : Int) : Prop := 0 ≤ n ∧ n ≤ 255
theorem codes_byte (s : ByteArray) : ∀ n ∈ codes s, isByte n := by
  intro n hn
  obtain ⟨c, _, rfl⟩ := List.mem_map.1 hn
  have := c.toNat_lt
  unfold isByte; omega
theorem codes_of (l : List Int) (h : ∀ n ∈ l, isByte n) : codes (strOfNums l) = l := by
  unfold codes
  rw [strOfNums_data, List.map_map]
  conv => rhs; rw [← List.map_id l]
  apply List.map_congr_left
  intro n hn
  have := h n hn
  unfold isByte at this
  simp only [Function.comp, id]
  rw [UInt8.toNat_ofNat']
  omega
theorem of_codes (s : ByteArray) : strOfNums (codes s) = s := by
  apply ByteArray.ext
  unfold strOfNums codes
  simp only [List.map_map]
  apply Array.ext'
  simp only []
  conv => rhs; rw [← List.map_id s.data.toList]
  apply List.map_congr_left
  intro c _
  simp only [Function.comp, id, Int.toNat_natCast]
  exact UInt8.ofNat_toNat
theorem codes_inj {s t : ByteArray} (h : codes s = codes t) : s = t := by rw [← of_codes s, ← of_codes t, h]
end Go.Tw
/-
  Orders in plain Lean: the order of strings; comparisons, one behind the other; the sorted list.
-/
namespace Go.Tw.Ord
open Go.RowKit Go.Sort
open Go.Proofs (ltOf)
def ltL : List Int → List Int → Bool
  | [], [] => false
  | [], _ :: _ => true
  | _ :: _, [] => false
  | x :: a, y :: b => if x = y then ltL a b else decide (x < y)
theorem ltL_drop {a b : List Int} {k : Nat} (h : k < a.length) (h2 : k < b.length) : ltL (a.drop k) (b.drop k) = if a[k] = b[k] then ltL (a.drop (k + 1)) (b.drop (k + 1)) else decide (a[k] < b[k]) := by
  rw [List.drop_eq_getElem_cons h, List.drop_eq_getElem_cons h2, ltL]
theorem ltL_end {a b : List Int} {k : Nat} (h : k ≤ a.length) (h2 : k ≤ b.length) (h3 : a.length ≤ k ∨ b.length ≤ k) : ltL (a.drop k) (b.drop k) = decide (a.length < b.length) := by
  by_cases q : a.length ≤ k
  · rw [List.drop_eq_nil_of_le q]
    by_cases q2 : b.length ≤ k
    · rw [List.drop_eq_nil_of_le q2, ltL]; symm; simp; omega
    · rw [List.drop_eq_getElem_cons (by omega), ltL]; symm; simp; omega
  · rw [List.drop_eq_getElem_cons (by omega), List.drop_eq_nil_of_le (show b.length ≤ k by omega), ltL]; symm; simp; omega
theorem ltL_irrefl : ∀ a : List Int, ltL a a = false
  | [] => rfl
  | x :: a => by rw [ltL, if_pos rfl, ltL_irrefl a]
theorem ltL_total : ∀ a b : List Int, ltL a b = false → ltL b a = false → a = b
  | [], [], _, _ => rfl
  | [], _ :: _, h, _ => by simp [ltL] at h
  | _ :: _, [], _, h => by simp [ltL] at h
  | x :: a, y :: b, h1, h2 => by
    by_cases e : x = y
    · subst e
      rw [ltL, if_pos rfl] at h1 h2
      rw [ltL_total a b h1 h2]
    · rw [ltL, if_neg e] at h1
      rw [ltL, if_neg (fun q => e q.symm)] at h2
      simp at h1 h2
      omega
theorem ltL_trans : ∀ a b c : List Int, ltL a b = true → ltL b c = true → ltL a c = true
  | [], _, [], h1, h2 => by
    rename_i b
    cases b <;> simp [ltL] at h1 h2
  | [], _, _ :: _, _, _ => rfl
  | _ :: _, [], _, h1, _ => by simp [ltL] at h1
  | _ :: _, _ :: _, [], _, h2 => by simp [ltL] at h2
  | x :: a, y :: b, z :: c, h1, h2 => by
    rw [ltL] at h1 h2 ⊢
    by_cases e1 : x = y <;> by_cases e2 : y = z
    · subst e1; subst e2
      rw [if_pos rfl] at h1 h2 ⊢
      exact ltL_trans a b c h1 h2
    · subst e1
      rw [if_neg e2] at h2 ⊢
      exact h2
    · subst e2
      rw [if_neg e1] at h1 ⊢
      exact h1
    · rw [if_neg e1] at h1
      rw [if_neg e2] at h2
      simp at h1 h2
      rw [if_neg (by omega)]
      simp; omega
theorem ltL_asymm {a b : List Int} (h : ltL a b = true) : ltL b a = false := by
  cases q : ltL b a
  · rfl
  · have := ltL_trans a b a h q
    rw [ltL_irrefl] at this; cases this
theorem less_codes : ∀ (x y : List UInt8), Op.bytesLess x y = ltL (x.map fun c => (c.toNat : Int)) (y.map fun c => (c.toNat : Int))
  | [], [] => by simp [Op.bytesLess, ltL]
  | _ :: _, [] => by simp [Op.bytesLess, ltL]
  | [], _ :: _ => by simp [Op.bytesLess, ltL]
  | a :: x, b :: y => by
    rw [Op.bytesLess, less_codes x y, List.map_cons, List.map_cons, ltL]
    by_cases h : a = b
    · subst h
      simp
    · have h' : ¬ (a.toNat : Int) = (b.toNat : Int) := fun q => h (UInt8.toNat_inj.mp (by omega))
      rw [if_neg h']
      simp [h, UInt8.lt_iff_toNat_lt]
theorem less_str (s t : ByteArray) : Op.bytesLess s.toList t.toList = ltL (codes s) (codes t) := by
  rw [Lib.toList_data, Lib.toList_data, less_codes]
  rfl
theorem eq_str (s t : ByteArray) : (s.toList == t.toList) = decide (s = t) := by
  rw [Lib.toList_data, Lib.toList_data, Bool.eq_iff_iff, beq_iff_eq, decide_eq_true_eq]
  constructor
  · intro h
    exact ByteArray.ext (Array.ext' h)
  · intro h
    rw [h]
/-- what cmp.Compare answers for strings -/
def cmpS (a b : ByteArray) : Int := if ltL (codes a) (codes b) = true then -1 else if a = b then 0 else 1
def cmpI (a b : Int) : Int := if a < b then -1 else if b < a then 1 else 0
/-- the first number that is not 0, or 0 -/
def orL : List Int → Int
  | [] => 0
  | a :: l => if a = 0 then orL l else a

structure Cmp {α : Type} (c : α → α → Int) : Prop where
  anti : ∀ x y, c y x = - c x y
  trans : ∀ x y z, c x y ≤ 0 → c y z ≤ 0 → c x z ≤ 0
theorem cmpI_cmp : Cmp cmpI where
  anti x y := by unfold cmpI; repeat' split
                 all_goals omega
  trans x y z h1 h2 := by
    unfold cmpI at *
    by_cases a : x < y <;> by_cases b : y < x <;> by_cases c : y < z <;> by_cases d : z < y <;> by_cases e : x < z <;> by_cases f : z < x <;> simp_all <;> omega
theorem cmpS_cmp : Cmp cmpS where
  anti x y := by
    unfold cmpS
    by_cases h : ltL (codes x) (codes y) = true
    · rw [if_pos h, ltL_asymm h, if_neg (by simp), if_neg]
      · rfl
      · rintro rfl
        rw [ltL_irrefl] at h
        cases h
    · rw [if_neg h]
      by_cases k : ltL (codes y) (codes x) = true
      · rw [if_pos k, if_neg]
        rintro rfl
        exact h k
      · rw [if_neg k]
        have : x = y := codes_inj (ltL_total _ _ (by simpa using h) (by simpa using k))
        subst this
        simp
  trans x y z h1 h2 := by
    have key : ∀ x y, cmpS x y ≤ 0 ↔ (ltL (codes x) (codes y) = true ∨ x = y) := fun x y => by
      unfold cmpS
      repeat' split
      all_goals simp_all
    rw [key] at *
    rcases h1 with h1 | rfl
    · rcases h2 with h2 | rfl
      · exact .inl (ltL_trans _ _ _ h1 h2)
      · exact .inl h1
    · exact h2
theorem cmpI_zero {x y : Int} (h : cmpI x y = 0) : x = y := by
  unfold cmpI at h
  by_cases a : x < y
  · rw [if_pos a] at h; omega
  · rw [if_neg a] at h
    by_cases b : y < x
    · rw [if_pos b] at h; omega
    · omega
theorem cmpS_zero {x y : ByteArray} (h : cmpS x y = 0) : x = y := by
  unfold cmpS at h
  by_cases a : ltL (codes x) (codes y) = true
  · rw [if_pos a] at h; omega
  · rw [if_neg a] at h
    by_cases b : x = y
    · exact b
    · rw [if_neg b] at h; omega
theorem Cmp.on {α β : Type} {c : β → β → Int} (h : Cmp c) (f : α → β) : Cmp fun x y => c (f x) (f y) := ⟨fun _ _ => h.anti _ _, fun _ _ _ => h.trans _ _ _⟩
theorem Cmp.then {α : Type} {c d : α → α → Int} (h : Cmp c) (k : Cmp d) : Cmp fun x y => if c x y = 0 then d x y else c x y where
  anti x y := by
    have := h.anti x y
    have k1 := k.anti x y
    by_cases e : c x y = 0
    · rw [if_pos e, if_pos (by omega)]; exact k1
    · rw [if_neg e, if_neg (by omega)]; exact this
  trans x y z h1 h2 := by
    have a1 := h.anti x y
    have a2 := h.anti y z
    have a3 := h.anti x z
    have b1 : c x y ≤ 0 := by
      by_cases e : c x y = 0
      · omega
      · rwa [if_neg e] at h1
    have b2 : c y z ≤ 0 := by
      by_cases e : c y z = 0
      · omega
      · rwa [if_neg e] at h2
    have b3 := h.trans x y z b1 b2
    by_cases e : c x z = 0
    · have c1 := h.trans z x y (by omega) b1
      have c2 := h.trans y z x b2 (by omega)
      rw [if_pos e]
      rw [if_pos (by omega)] at h1 h2
      exact k.trans x y z h1 h2
    · rw [if_neg e]; exact b3
theorem Cmp.nil {α : Type} : Cmp fun (_ _ : α) => (0 : Int) := ⟨fun _ _ => rfl, fun _ _ _ _ _ => Int.le_refl _⟩
/-- comparisons one behind the other -/
theorem Cmp.orL {α : Type} : ∀ {fs : List (α → α → Int)}, (∀ f ∈ fs, Cmp f) → Cmp fun x y => orL (fs.map fun f => f x y)
  | [], _ => Cmp.nil
  | f :: fs, h => (h f (by simp)).then (Cmp.orL (fs := fs) fun g hg => h g (by simp [hg]))
theorem orL_zero : ∀ {l : List Int}, orL l = 0 → ∀ a ∈ l, a = 0
  | [], _, _, h => absurd h List.not_mem_nil
  | a :: l, h, b, hb => by
    unfold orL at h
    by_cases e : a = 0
    · rw [if_pos e] at h
      rcases List.mem_cons.1 hb with rfl | hb
      · exact e
      · exact orL_zero h b hb
    · rw [if_neg e] at h
      exact absurd h e
theorem Cmp.swo {α : Type} {c : α → α → Int} (h : Cmp c) : SWO (ltOf c) where
  irrefl x := by
    unfold ltOf
    have := h.anti x x
    exact decide_eq_false (by omega)
  trans x y z h1 h2 := by
    unfold ltOf at *
    simp only [decide_eq_true_eq] at *
    have a1 := h.anti x y
    have a2 := h.anti y z
    have a3 := h.anti x z
    have := h.trans x y z (by omega) (by omega)
    by_cases e : c x z = 0
    · have := h.trans y z x (by omega) (by omega)
      omega
    · omega
  ntrans x y z h1 h2 := by
    unfold ltOf at *
    simp only [decide_eq_false_iff_not, Int.not_lt] at *
    have a1 := h.anti x y
    have a2 := h.anti y z
    have a3 := h.anti x z
    have := h.trans z y x (by omega) (by omega)
    omega
section
variable {α : Type} [Inhabited α] {c : α → α → Int}
/-- the sorted list -/
def sortL (c : α → α → Int) (l : List α) : List α := l.mergeSort fun x y => !ltOf c y x
theorem sortL_of {d d' : Array α} (hc : Cmp c) (h0 : ∀ x y, c x y = 0 → x = y) (hp : PermIn 0 d.size d d') (hs : SortedIn (ltOf c) 0 d.size d') : d'.toList = sortL c d.toList :=
  sorted_unique_holds hc.swo (fun x y h1 h2 => h0 x y (by
    unfold ltOf at h1 h2
    have := hc.anti x y
    simp only [decide_eq_false_iff_not, Int.not_lt] at h1 h2
    omega)) d d' hp hs
theorem permIn_of {l l' : List α} (h : l'.Perm l) : PermIn 0 l.toArray.size l.toArray l'.toArray := by
  have hl := h.length_eq
  refine ⟨by simpa using hl, fun i hi => ?_, ?_⟩
  · rw [getElem!_neg _ i (by simp at hi ⊢; omega), getElem!_neg _ i (by simp at hi ⊢; omega)]
  · have e : ∀ (l : List α) (n : Nat), l.length = n → (l.toArray.extract 0 n).toList = l := fun l n h => by subst h; simp
    rw [e l' _ (by simpa using hl), e l _ (by simp)]
    exact h
theorem sortL_uniq {l l' : List α} (hc : Cmp c) (h0 : ∀ x y, c x y = 0 → x = y) (hp : l'.Perm l) (hs : l'.Pairwise fun x y => c x y ≤ 0) : l' = sortL c l := by
  have := sortL_of (d := l.toArray) (d' := l'.toArray) hc h0 (permIn_of hp) (fun i j _ hij hj => by
    have hl := hp.length_eq
    have hj' : j < l'.length := by simpa [hl] using hj
    rw [getElem!_pos l'.toArray j (by simpa using hj'), getElem!_pos l'.toArray i (by simp; omega)]
    have := List.pairwise_iff_getElem.1 hs i j (by omega) hj' hij
    unfold ltOf
    have a := hc.anti l'[i] l'[j]
    simp only [List.getElem_toArray, decide_eq_false_iff_not, Int.not_lt]
    omega)
  simpa using this
omit [Inhabited α] in
theorem sortL_perm (l : List α) : (sortL c l).Perm l := List.mergeSort_perm _ _
omit [Inhabited α] in
theorem sortL_len (l : List α) : (sortL c l).length = l.length := (sortL_perm l).length_eq
omit [Inhabited α] in
theorem sortL_sorted (hc : Cmp c) (l : List α) : (sortL c l).Pairwise fun x y => c x y ≤ 0 := by
  have := List.pairwise_mergeSort (le := fun x y => !ltOf c y x) (fun a b d h1 h2 => by
    simp only [Bool.not_eq_true'] at *
    exact hc.swo.ntrans _ _ _ h2 h1) (fun a b => by
    cases h : ltOf c b a with
    | false => rfl
    | true => rw [hc.swo.asymmA h]; rfl) l
  refine this.imp fun {x y} h => ?_
  simp only [ltOf, Bool.not_eq_true', decide_eq_false_iff_not, Int.not_lt] at h
  have := hc.anti x y
  omega
theorem sortL_congr {l l' : List α} (hc : Cmp c) (h0 : ∀ x y, c x y = 0 → x = y) (hp : l'.Perm l) : sortL c l' = sortL c l :=
  sortL_uniq hc h0 ((sortL_perm l').trans hp) (sortL_sorted hc l')
end
end Go.Tw.Ord
/-
  Layers 31, 32, 37 (price, ledger, post) in plain Lean: lines, posts, charges, entries, books. No program in sight.
-/
namespace Go.Tw.Po
open Go.RowKit Go.Sort Go.Tw.Ord

/-- a text and a number: a line of a charge, a post of an entry -/
structure SI where
  s : ByteArray
  n : Int
deriving DecidableEq
instance : Inhabited SI := ⟨⟨ByteArray.empty, 0⟩⟩
def tSI : Ty SI := (tStr.pair tInt).via fun r => (r.s, r.n)
def siCells (r : SI) : List Value := [.string r.s, .int .i64 r.n]
structure SIOk (r : SI) : Prop where
  s : r.s.size ≤ maxLen
  n : i64ok r.n
theorem tSI_is {S : Nat → Prop} {w : World} {cs : List Value} {r : SI} (h : tSI.is S w cs r) : cs = siCells r ∧ SIOk r := by
  obtain ⟨_, _, rfl, ⟨rfl, h1⟩, ⟨rfl, h2⟩⟩ := h
  exact ⟨rfl, h1, h2⟩
theorem tSI_mk {S : Nat → Prop} {w : World} {r : SI} (h : SIOk r) : tSI.is S w (siCells r) r := ⟨[_], [_], rfl, ⟨rfl, h.s⟩, rfl, h.n⟩
theorem tSI_own {F : List Nat} {w : World} {cs : List Value} {r : SI} (h : tSI.own F w cs r) : F = [] ∧ cs = siCells r ∧ SIOk r := by
  obtain ⟨_, _, _, _, rfl, rfl, ⟨rfl, rfl, h1⟩, ⟨rfl, rfl, h2⟩⟩ := h
  exact ⟨rfl, rfl, h1, h2⟩
theorem tSI_own_mk {w : World} {r : SI} (h : SIOk r) : tSI.own [] w (siCells r) r := ⟨[_], [_], [], [], rfl, rfl, ⟨rfl, rfl, h.s⟩, rfl, rfl, h.n⟩
theorem ownSI {w w' : World} {cs : List Value} {x : SI} {S : Nat → Prop} (h : tSI.is S w cs x) : tSI.own [] w' cs x := by
  obtain ⟨rfl, hh⟩ := tSI_is h
  exact tSI_own_mk hh
theorem siFlat : tSI.Flat := fun h => by
  obtain ⟨rfl, hh⟩ := tSI_is h
  exact tSI_mk hh
/-- a charge -/
structure Chg where
  key : ByteArray
  veh : ByteArray
  sys : ByteArray
  cls : Int
  tm : Int
  ls : List SI
  c : Int
deriving DecidableEq
instance : Inhabited Chg := ⟨⟨ByteArray.empty, ByteArray.empty, ByteArray.empty, 0, 0, [], 0⟩⟩
def tChg (e : TypeId) : Ty Chg := (tStr.pair (tStr.pair (tStr.pair (tInt.pair (tInt.pair ((tSI.list e).pair tInt)))))).via fun r => (r.key, r.veh, r.sys, r.cls, r.tm, r.ls, r.c)
def cCells (r : Chg) (v : Value) : List Value := [.string r.key, .string r.veh, .string r.sys, .int .i64 r.cls, .int .i64 r.tm, v, .int .i64 r.c]
structure ChgOk (r : Chg) : Prop where
  key : r.key.size ≤ maxLen
  veh : r.veh.size ≤ maxLen
  sys : r.sys.size ≤ maxLen
  cls : i64ok r.cls
  tm : i64ok r.tm
  c : i64ok r.c
theorem tChg_is {e : TypeId} {S : Nat → Prop} {w : World} {cs : List Value} {r : Chg} (h : (tChg e).is S w cs r) : ∃ v, cs = cCells r v ∧ ChgOk r ∧ SlIs tSI S w v r.ls := by
  obtain ⟨_, _, rfl, ⟨rfl, h1⟩, _, _, rfl, ⟨rfl, h2⟩, _, _, rfl, ⟨rfl, h3⟩, _, _, rfl, ⟨rfl, h4⟩, _, _, rfl, ⟨rfl, h5⟩, _, _, rfl, ⟨v, rfl, h6⟩, ⟨rfl, h7⟩⟩ := h
  exact ⟨v, rfl, ⟨h1, h2, h3, h4, h5, h7⟩, h6⟩
theorem tChg_mk {e : TypeId} {S : Nat → Prop} {w : World} {r : Chg} {v : Value} (h : ChgOk r) (hv : SlIs tSI S w v r.ls) : (tChg e).is S w (cCells r v) r :=
  ⟨[_], _, rfl, ⟨rfl, h.key⟩, [_], _, rfl, ⟨rfl, h.veh⟩, [_], _, rfl, ⟨rfl, h.sys⟩, [_], _, rfl, ⟨rfl, h.cls⟩, [_], _, rfl, ⟨rfl, h.tm⟩, [_], [_], rfl, ⟨v, rfl, hv⟩, rfl, h.c⟩
theorem tChg_own {e : TypeId} {F : List Nat} {w : World} {cs : List Value} {r : Chg} (h : (tChg e).own F w cs r) : ∃ v, cs = cCells r v ∧ ChgOk r ∧ OwnL tSI e F w v r.ls := by
  obtain ⟨_, _, _, _, rfl, rfl, ⟨rfl, rfl, h1⟩, _, _, _, _, rfl, rfl, ⟨rfl, rfl, h2⟩, _, _, _, _, rfl, rfl, ⟨rfl, rfl, h3⟩, _, _, _, _, rfl, rfl, ⟨rfl, rfl, h4⟩, _, _, _, _, rfl, rfl, ⟨rfl, rfl, h5⟩, _, _, _, _, rfl, rfl, ⟨v, rfl, h6⟩, ⟨rfl, rfl, h7⟩⟩ := h
  exact ⟨v, rfl, ⟨h1, h2, h3, h4, h5, h7⟩, by simpa using h6⟩
theorem tChg_own_mk {e : TypeId} {F : List Nat} {w : World} {r : Chg} {v : Value} (h : ChgOk r) (hv : OwnL tSI e F w v r.ls) : (tChg e).own F w (cCells r v) r :=
  ⟨[_], _, [], _, rfl, rfl, ⟨rfl, rfl, h.key⟩, [_], _, [], _, rfl, rfl, ⟨rfl, rfl, h.veh⟩, [_], _, [], _, rfl, rfl, ⟨rfl, rfl, h.sys⟩, [_], _, [], _, rfl, rfl, ⟨rfl, rfl, h.cls⟩, [_], _, [], _, rfl, rfl, ⟨rfl, rfl, h.tm⟩, [_], [_], F, [], rfl, by simp, ⟨v, rfl, hv⟩, rfl, rfl, h.c⟩
/-- an entry -/
structure Ent where
  key : ByteArray
  tm : Int
  ps : List SI
deriving DecidableEq
instance : Inhabited Ent := ⟨⟨ByteArray.empty, 0, []⟩⟩
def tEnt (e : TypeId) : Ty Ent := (tStr.pair (tInt.pair (tSI.list e))).via fun r => (r.key, r.tm, r.ps)
def eCells (r : Ent) (v : Value) : List Value := [.string r.key, .int .i64 r.tm, v]
structure EntOk (r : Ent) : Prop where
  key : r.key.size ≤ maxLen
  tm : i64ok r.tm
theorem tEnt_is {e : TypeId} {S : Nat → Prop} {w : World} {cs : List Value} {r : Ent} (h : (tEnt e).is S w cs r) : ∃ v, cs = eCells r v ∧ EntOk r ∧ SlIs tSI S w v r.ps := by
  obtain ⟨_, _, rfl, ⟨rfl, h1⟩, _, _, rfl, ⟨rfl, h2⟩, ⟨v, rfl, h3⟩⟩ := h
  exact ⟨v, rfl, ⟨h1, h2⟩, h3⟩
theorem tEnt_mk {e : TypeId} {S : Nat → Prop} {w : World} {r : Ent} {v : Value} (h : EntOk r) (hv : SlIs tSI S w v r.ps) : (tEnt e).is S w (eCells r v) r :=
  ⟨[_], _, rfl, ⟨rfl, h.key⟩, [_], [_], rfl, ⟨rfl, h.tm⟩, v, rfl, hv⟩
theorem tEnt_own {e : TypeId} {F : List Nat} {w : World} {cs : List Value} {r : Ent} (h : (tEnt e).own F w cs r) : ∃ v, cs = eCells r v ∧ EntOk r ∧ OwnL tSI e F w v r.ps := by
  obtain ⟨_, _, _, _, rfl, rfl, ⟨rfl, rfl, h1⟩, _, _, _, _, rfl, rfl, ⟨rfl, rfl, h2⟩, ⟨v, rfl, h3⟩⟩ := h
  exact ⟨v, rfl, ⟨h1, h2⟩, h3⟩
theorem tEnt_own_mk {e : TypeId} {F : List Nat} {w : World} {r : Ent} {v : Value} (h : EntOk r) (hv : OwnL tSI e F w v r.ps) : (tEnt e).own F w (eCells r v) r :=
  ⟨[_], _, [], _, rfl, rfl, ⟨rfl, rfl, h.key⟩, [_], [_], [], F, rfl, rfl, ⟨rfl, rfl, h.tm⟩, v, rfl, hv⟩

/-! ### The order of charges -/
/-- time, key -/
def chgC (a b : Chg) : Int := orL [cmpI a.tm b.tm, cmpS a.key b.key]
theorem chgC_cmp : Cmp chgC := by
  have := Cmp.orL (fs := [fun a b : Chg => cmpI a.tm b.tm, fun a b : Chg => cmpS a.key b.key]) (fun f hf => by
    simp only [List.mem_cons, List.not_mem_nil, or_false] at hf
    rcases hf with rfl | rfl
    · exact cmpI_cmp.on Chg.tm
    · exact cmpS_cmp.on Chg.key)
  exact this

/-! ### What the functions compute: price, ledger -/
def fitsM (n : Int) : Bool := decide (-1125899906842624 ≤ n) && decide (n ≤ 1125899906842624)
def sumL (l : List SI) : Int := (l.map SI.n).sum
/-- price.Check -/
def chkC (x : Chg) : Int :=
  if x.key.size = 0 ∨ x.veh.size = 0 then 6 else if x.cls < 0 ∨ 9 < x.cls then 20 else if x.tm < 0 ∨ 68719476736 < x.tm then 12
  else if (x.ls.all fun l => fitsM l.n) = false then 13 else if x.c < 0 ∨ 1125899906842624 < x.c then 13 else if x.c ≠ sumL x.ls then 8 else 0
end Go.Tw.Po
