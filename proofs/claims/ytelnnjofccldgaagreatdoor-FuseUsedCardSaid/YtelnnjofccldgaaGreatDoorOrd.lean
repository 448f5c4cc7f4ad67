/-
  Orders in plain Lean: the order of strings; comparisons, one behind the other; the sorted list.
-/
import Derived.Test.YtelnnjofccldgaaGreatDoorRow
import Derived.Sort.LotA
import Derived.Shelf.SlSortCmp.Insertion
namespace Go.Tw.Ord
open Go.RowKit Go.Sort
open Go.Proofs (ltOf)
def ltL : List Int → List Int → Bool
  | [], [] => false
  | [], _ :: _ => true
  | _ :: _, [] => false
  | x :: a, y :: b => if x = y then ltL a b else decide (x < y)
theorem ltL_drop {a b : List Int} {k : Nat} (h : k < a.length) (h2 : k < b.length) : ltL (a.drop k) (b.drop k) = if a[k] = b[k] then ltL (a.drop (k + 1)) (b.drop (k + 1)) else decide (a[k] < b[k]) := by
  rw [List.drop_eq_getElem_cons h, List.drop_eq_getElem_cons h2, ltL]
theorem ltL_end {a b : List Int} {k : Nat} (h : k ≤ a.length) (h2 : k ≤ b.length) (h3 : a.length ≤ k ∨ b.length ≤ k) : ltL (a.drop k) (b.drop k) = decide (a.length < b.length) := by
  by_cases q : a.length ≤ k
  · rw [List.drop_eq_nil_of_le q]
    by_cases q2 : b.length ≤ k
    · rw [List.drop_eq_nil_of_le q2, ltL]; symm; simp; omega
    · rw [List.drop_eq_getElem_cons (by omega), ltL]; symm; simp; omega
  · rw [List.drop_eq_getElem_cons (by omega), List.drop_eq_nil_of_le (show b.length ≤ k by omega), ltL]; symm; simp; omega
theorem ltL_irrefl : ∀ a : List Int, ltL a a = false
  | [] => rfl
  | x :: a => by rw [ltL, if_pos rfl, ltL_irrefl a]
theorem ltL_total : ∀ a b : List Int, ltL a b = false → ltL b a = false → a = b
  | [], [], _, _ => rfl
  | [], _ :: _, h, _ => by simp [ltL] at h
  | _ :: _, [], _, h => by simp [ltL] at h
  | x :: a, y :: b, h1, h2 => by
    by_cases e : x = y
    · subst e
      rw [ltL, if_pos rfl] at h1 h2
      rw [ltL_total a b h1 h2]
    · rw [ltL, if_neg e] at h1
      rw [ltL, if_neg (fun q => e q.symm)] at h2
      simp at h1 h2
      omega
theorem ltL_trans : ∀ a b c : List Int, ltL a b = true → ltL b c = true → ltL a c = true
  | [], _, [], h1, h2 => by
    rename_i b
    cases b <;> simp [ltL] at h1 h2
  | [], _, _ :: _, _, _ => rfl
  | _ :: _, [], _, h1, _ => by simp [ltL] at h1
  | _ :: _, _ :: _, [], _, h2 => by simp [ltL] at h2
  | x :: a, y :: b, z :: c, h1, h2 => by
    rw [ltL] at h1 h2 ⊢
    by_cases e1 : x = y <;> by_cases e2 : y = z
    · subst e1; subst e2
      rw [if_pos rfl] at h1 h2 ⊢
      exact ltL_trans a b c h1 h2
    · subst e1
      rw [if_neg e2] at h2 ⊢
      exact h2
    · subst e2
      rw [if_neg e1] at h1 ⊢
      exact h1
    · rw [if_neg e1] at h1
      rw [if_neg e2] at h2
      simp at h1 h2
      rw [if_neg (by omega)]
      simp; omega
theorem ltL_asymm {a b : List Int} (h : ltL a b = true) : ltL b a = false := by
  cases q : ltL b a
  · rfl
  · have := ltL_trans a b a h q
    rw [ltL_irrefl] at this; cases this
theorem less_codes : ∀ (x y : List UInt8), Op.bytesLess x y = ltL (x.map fun c => (c.toNat : Int)) (y.map fun c => (c.toNat : Int))
  | [], [] => by simp [Op.bytesLess, ltL]
  | _ :: _, [] => by simp [Op.bytesLess, ltL]
  | [], _ :: _ => by simp [Op.bytesLess, ltL]
  | a :: x, b :: y => by
    rw [Op.bytesLess, less_codes x y, List.map_cons, List.map_cons, ltL]
    by_cases h : a = b
    · subst h
      simp
    · have h' : ¬ (a.toNat : Int) = (b.toNat : Int) := fun q => h (UInt8.toNat_inj.mp (by omega))
      rw [if_neg h']
      simp [h, UInt8.lt_iff_toNat_lt]
theorem less_str (s t : ByteArray) : Op.bytesLess s.toList t.toList = ltL (codes s) (codes t) := by
  rw [Lib.toList_data, Lib.toList_data, less_codes]
  rfl
theorem eq_str (s t : ByteArray) : (s.toList == t.toList) = decide (s = t) := by
  rw [Lib.toList_data, Lib.toList_data, Bool.eq_iff_iff, beq_iff_eq, decide_eq_true_eq]
  constructor
  · intro h
    exact ByteArray.ext (Array.ext' h)
  · intro h
    rw [h]
/-- what cmp.Compare answers for strings -/
def cmpS (a b : ByteArray) : Int := if ltL (codes a) (codes b) = true then -1 else if a = b then 0 else 1
def cmpI (a b : Int) : Int := if a < b then -1 else if b < a then 1 else 0
/-- the first number that is not 0, or 0 -/
def orL : List Int → Int
  | [] => 0
  | a :: l => if a = 0 then orL l else a

structure Cmp {α : Type} (c : α → α → Int) : Prop where
  anti : ∀ x y, c y x = - c x y
  trans : ∀ x y z, c x y ≤ 0 → c y z ≤ 0 → c x z ≤ 0
theorem cmpI_cmp : Cmp cmpI where
  anti x y := by unfold cmpI; repeat' split
                 all_goals omega
  trans x y z h1 h2 := by
    unfold cmpI at *
    by_cases a : x < y <;> by_cases b : y < x <;> by_cases c : y < z <;> by_cases d : z < y <;> by_cases e : x < z <;> by_cases f : z < x <;> simp_all <;> omega
theorem cmpS_cmp : Cmp cmpS where
  anti x y := by
    unfold cmpS
    by_cases h : ltL (codes x) (codes y) = true
    · rw [if_pos h, ltL_asymm h, if_neg (by simp), if_neg]
      · rfl
      · rintro rfl
        rw [ltL_irrefl] at h
        cases h
    · rw [if_neg h]
      by_cases k : ltL (codes y) (codes x) = true
      · rw [if_pos k, if_neg]
        rintro rfl
        exact h k
      · rw [if_neg k]
        have : x = y := codes_inj (ltL_total _ _ (by simpa using h) (by simpa using k))
        subst this
        simp
  trans x y z h1 h2 := by
    have key : ∀ x y, cmpS x y ≤ 0 ↔ (ltL (codes x) (codes y) = true ∨ x = y) := fun x y => by
      unfold cmpS
      repeat' split
      all_goals simp_all
    rw [key] at *
    rcases h1 with h1 | rfl
    · rcases h2 with h2 | rfl
      · exact .inl (ltL_trans _ _ _ h1 h2)
      · exact .inl h1
    · exact h2
theorem cmpI_zero {x y : Int} (h : cmpI x y = 0) : x = y := by
  unfold cmpI at h
  by_cases a : x < y
  · rw [if_pos a] at h; omega
  · rw [if_neg a] at h
    by_cases b : y < x
    · rw [if_pos b] at h; omega
    · omega
theorem cmpS_zero {x y : ByteArray} (h : cmpS x y = 0) : x = y := by
  unfold cmpS at h
  by_cases a : ltL (codes x) (codes y) = true
  · rw [if_pos a] at h; omega
  · rw [if_neg a] at h
    by_cases b : x = y
    · exact b
    · rw [if_neg b] at h; omega
theorem Cmp.on {α β : Type} {c : β → β → Int} (h : Cmp c) (f : α → β) : Cmp fun x y => c (f x) (f y) := ⟨fun _ _ => h.anti _ _, fun _ _ _ => h.trans _ _ _⟩
theorem Cmp.then {α : Type} {c d : α → α → Int} (h : Cmp c) (k : Cmp d) : Cmp fun x y => if c x y = 0 then d x y else c x y where
  anti x y := by
    have := h.anti x y
    have k1 := k.anti x y
    by_cases e : c x y = 0
    · rw [if_pos e, if_pos (by omega)]; exact k1
    · rw [if_neg e, if_neg (by omega)]; exact this
  trans x y z h1 h2 := by
    have a1 := h.anti x y
    have a2 := h.anti y z
    have a3 := h.anti x z
    have b1 : c x y ≤ 0 := by
      by_cases e : c x y = 0
      · omega
      · rwa [if_neg e] at h1
    have b2 : c y z ≤ 0 := by
      by_cases e : c y z = 0
      · omega
      · rwa [if_neg e] at h2
    have b3 := h.trans x y z b1 b2
    by_cases e : c x z = 0
    · have c1 := h.trans z x y (by omega) b1
      have c2 := h.trans y z x b2 (by omega)
      rw [if_pos e]
      rw [if_pos (by omega)] at h1 h2
      exact k.trans x y z h1 h2
    · rw [if_neg e]; exact b3
theorem Cmp.nil {α : Type} : Cmp fun (_ _ : α) => (0 : Int) := ⟨fun _ _ => rfl, fun _ _ _ _ _ => Int.le_refl _⟩
/-- comparisons one behind the other -/
theorem Cmp.orL {α : Type} : ∀ {fs : List (α → α → Int)}, (∀ f ∈ fs, Cmp f) → Cmp fun x y => orL (fs.map fun f => f x y)
  | [], _ => Cmp.nil
  | f :: fs, h => (h f (by simp)).then (Cmp.orL (fs := fs) fun g hg => h g (by simp [hg]))
theorem orL_zero : ∀ {l : List Int}, orL l = 0 → ∀ a ∈ l, a = 0
  | [], _, _, h => absurd h List.not_mem_nil
  | a :: l, h, b, hb => by
    unfold orL at h
    by_cases e : a = 0
    · rw [if_pos e] at h
      rcases List.mem_cons.1 hb with rfl | hb
      · exact e
      · exact orL_zero h b hb
    · rw [if_neg e] at h
      exact absurd h e
theorem Cmp.swo {α : Type} {c : α → α → Int} (h : Cmp c) : SWO (ltOf c) where
  irrefl x := by
    unfold ltOf
    have := h.anti x x
    exact decide_eq_false (by omega)
  trans x y z h1 h2 := by
    unfold ltOf at *
    simp only [decide_eq_true_eq] at *
    have a1 := h.anti x y
    have a2 := h.anti y z
    have a3 := h.anti x z
    have := h.trans x y z (by omega) (by omega)
    by_cases e : c x z = 0
    · have := h.trans y z x (by omega) (by omega)
      omega
    · omega
  ntrans x y z h1 h2 := by
    unfold ltOf at *
    simp only [decide_eq_false_iff_not, Int.not_lt] at *
    have a1 := h.anti x y
    have a2 := h.anti y z
    have a3 := h.anti x z
    have := h.trans z y x (by omega) (by omega)
    omega
section
variable {α : Type} [Inhabited α] {c : α → α → Int}
/-- the sorted list -/
def sortL (c : α → α → Int) (l : List α) : List α := l.mergeSort fun x y => !ltOf c y x
theorem sortL_of {d d' : Array α} (hc : Cmp c) (h0 : ∀ x y, c x y = 0 → x = y) (hp : PermIn 0 d.size d d') (hs : SortedIn (ltOf c) 0 d.size d') : d'.toList = sortL c d.toList :=
  sorted_unique_holds hc.swo (fun x y h1 h2 => h0 x y (by
    unfold ltOf at h1 h2
    have := hc.anti x y
    simp only [decide_eq_false_iff_not, Int.not_lt] at h1 h2
    omega)) d d' hp hs
theorem permIn_of {l l' : List α} (h : l'.Perm l) : PermIn 0 l.toArray.size l.toArray l'.toArray := by
  have hl := h.length_eq
  refine ⟨by simpa using hl, fun i hi => ?_, ?_⟩
  · rw [getElem!_neg _ i (by simp at hi ⊢; omega), getElem!_neg _ i (by simp at hi ⊢; omega)]
  · have e : ∀ (l : List α) (n : Nat), l.length = n → (l.toArray.extract 0 n).toList = l := fun l n h => by subst h; simp
    rw [e l' _ (by simpa using hl), e l _ (by simp)]
    exact h
theorem sortL_uniq {l l' : List α} (hc : Cmp c) (h0 : ∀ x y, c x y = 0 → x = y) (hp : l'.Perm l) (hs : l'.Pairwise fun x y => c x y ≤ 0) : l' = sortL c l := by
  have := sortL_of (d := l.toArray) (d' := l'.toArray) hc h0 (permIn_of hp) (fun i j _ hij hj => by
    have hl := hp.length_eq
    have hj' : j < l'.length := by simpa [hl] using hj
    rw [getElem!_pos l'.toArray j (by simpa using hj'), getElem!_pos l'.toArray i (by simp; omega)]
    have := List.pairwise_iff_getElem.1 hs i j (by omega) hj' hij
    unfold ltOf
    have a := hc.anti l'[i] l'[j]
    simp only [List.getElem_toArray, decide_eq_false_iff_not, Int.not_lt]
    omega)
  simpa using this
omit [Inhabited α] in
theorem sortL_perm (l : List α) : (sortL c l).Perm l := List.mergeSort_perm _ _
omit [Inhabited α] in
theorem sortL_len (l : List α) : (sortL c l).length = l.length := (sortL_perm l).length_eq
omit [Inhabited α] in
theorem sortL_sorted (hc : Cmp c) (l : List α) : (sortL c l).Pairwise fun x y => c x y ≤ 0 := by
  have := List.pairwise_mergeSort (le := fun x y => !ltOf c y x) (fun a b d h1 h2 => by
    simp only [Bool.not_eq_true'] at *
    exact hc.swo.ntrans _ _ _ h2 h1) (fun a b => by
    cases h : ltOf c b a with
    | false => rfl
    | true => rw [hc.swo.asymmA h]; rfl) l
  refine this.imp fun {x y} h => ?_
  simp only [ltOf, Bool.not_eq_true', decide_eq_false_iff_not, Int.not_lt] at h
  have := hc.anti x y
  omega
theorem sortL_congr {l l' : List α} (hc : Cmp c) (h0 : ∀ x y, c x y = 0 → x = y) (hp : l'.Perm l) : sortL c l' = sortL c l :=
  sortL_uniq hc h0 ((sortL_perm l').trans hp) (sortL_sorted hc l')
end
end Go.Tw.Ord
