/-
  Layer 10 (plate): sorting strings.
-/
import Derived.Test.YthpmclhpagcbiaaPlateNear
namespace Go.Tw.Plate
open Go.RowKit Go.Sort
/-- the map of weights behind some readings -/
def wM (rs : List ByteArray) (ws : List Int) : ByteArray → Option Value := fun x => if x ∈ rs then some (.int .i64 (wsum rs ws x)) else none
theorem wM_snoc {rs : List ByteArray} {ws : List Int} {r : ByteArray} {w : Int} (h : rs.length = ws.length) (x : ByteArray) : (if x = r then some (.int .i64 (wsum rs ws r + clampW w)) else wM rs ws x) = wM (rs ++ [r]) (ws ++ [w]) x := by
  unfold wM
  rw [wsum_snoc _ _ _ _ _ h]
  by_cases e : x = r
  · subst e
    rw [if_pos rfl, if_pos (by simp), if_pos rfl]
  · rw [if_neg e, if_neg e]
    by_cases hx : x ∈ rs
    · rw [if_pos hx, if_pos (by simp [hx]), Int.add_zero]
    · rw [if_neg hx, if_neg (by simp [hx, e])]
theorem wM_reads (rs : List ByteArray) (ws : List Int) (x : ByteArray) : (wM rs ws x).getD (.int .i64 0) = .int .i64 (wsum rs ws x) := by
  unfold wM
  by_cases h : x ∈ rs
  · rw [if_pos h]; rfl
  · rw [if_neg h, wsum_none _ _ _ h]; rfl
theorem wM_some (rs : List ByteArray) (ws : List Int) (x : ByteArray) : (wM rs ws x).isSome = decide (x ∈ rs) := by
  unfold wM
  by_cases h : x ∈ rs
  · rw [if_pos h]; simp [h]
  · rw [if_neg h]; simp [h]
def strL (x : ByteArray) : List UInt8 := x.data.toList
def ofL (x : List UInt8) : ByteArray := ⟨x.toArray⟩
theorem of_str (x : ByteArray) : ofL (strL x) = x := by unfold ofL strL; rw [Array.toArray_toList]
theorem str_of (x : List UInt8) : strL (ofL x) = x := by unfold ofL strL; rfl
theorem lt_nums : ∀ x y : List UInt8, decide (x < y) = ltL (x.map fun c => (c.toNat : Int)) (y.map fun c => (c.toNat : Int))
  | [], [] => by simp [ltL]
  | _ :: _, [] => by simp [ltL]
  | [], _ :: _ => by simp [ltL]
  | a :: x, b :: y => by
    rw [List.map_cons, List.map_cons, ltL, ← lt_nums x y]
    by_cases e : a = b
    · subst e
      simp [List.cons_lt_cons_iff]
    · have e' : ¬ (a.toNat : Int) = (b.toNat : Int) := fun q => e (UInt8.toNat_inj.mp (by omega))
      rw [if_neg e']
      simp [List.cons_lt_cons_iff, e, UInt8.lt_iff_toNat_lt]
theorem lt_codes (x y : List UInt8) : decide (x < y) = ltL (codes (ofL x)) (codes (ofL y)) := lt_nums x y
theorem le_codes (x y : List UInt8) : decide (x ≤ y) = !ltL (codes (ofL y)) (codes (ofL x)) := by
  rw [← lt_codes]
  by_cases h : y < x
  · rw [decide_eq_true h, decide_eq_false (show ¬ x ≤ y from fun q => q h)]; rfl
  · rw [decide_eq_false h, decide_eq_true (show x ≤ y from h)]; rfl
/-- sorted as the library sorts -/
theorem merge_of (l : List ByteArray) : ∃ l' : List ByteArray, (l.map strL).mergeSort (fun x y => decide (x ≤ y)) = l'.map strL ∧ l'.Perm l ∧ l'.Pairwise (fun x y => ltL (codes y) (codes x) = false) := by
  refine ⟨((l.map strL).mergeSort (fun x y => decide (x ≤ y))).map ofL, ?_, ?_, ?_⟩
  · rw [List.map_map, show strL ∘ ofL = id from funext str_of, List.map_id]
  · have h := (List.mergeSort_perm (l.map strL) (fun x y => decide (x ≤ y))).map ofL
    rw [List.map_map, show ofL ∘ strL = id from funext of_str, List.map_id] at h
    exact h
  · rw [List.pairwise_map]
    refine (List.pairwise_mergeSort (le := fun x y => decide (x ≤ y)) (fun a b c h1 h2 => ?_) (fun a b => ?_) (l.map strL)).imp fun {x y} h => ?_
    · rw [le_codes] at h1 h2 ⊢
      simp only [Bool.not_eq_true'] at h1 h2 ⊢
      cases hc : ltL (codes (ofL c)) (codes (ofL a))
      · rfl
      · by_cases e : codes (ofL b) = codes (ofL a)
        · rw [e, hc] at h2; cases h2
        · by_cases q : ltL (codes (ofL a)) (codes (ofL b)) = true
          · rw [ltL_trans _ _ _ hc q] at h2; cases h2
          · exact absurd (ltL_total _ _ h1 (by simpa using q)) e
    · rw [le_codes, le_codes]
      cases h1 : ltL (codes (ofL b)) (codes (ofL a))
      · rfl
      · rw [ltL_asymm h1]; rfl
    · rw [le_codes] at h
      simpa using h
end Go.Tw.Plate
namespace Go.Proofs.Ythpmclhpagcbiaa
open Go.RowKit Go.Tw Go.Tw.Plate Go.Sort
theorem holds_str {w : World} {g : Nat} {l : List ByteArray} : Holds Value.string w g 0 l.toArray ↔ Holds encStr w g 0 (l.map strL).toArray := by
  have key : ∀ j (hj : j < l.length), Value.string (l.toArray)[j]! = encStr ((l.map strL).toArray)[j]! := fun j hj => by
    rw [getElem!_pos l.toArray j (by simpa using hj), getElem!_pos (l.map strL).toArray j (by simpa using hj)]
    show Value.string _ = Value.string ⟨_⟩
    simp [strL]
  constructor
  · intro h j hj
    have hj' : j < l.length := by simpa using hj
    have := h j (by simpa using hj')
    rw [key j hj'] at this
    exact this
  · intro h j hj
    have hj' : j < l.length := by simpa using hj
    have := h j (by simpa using hj')
    rw [← key j hj'] at this
    exact this
/-- slices.Sort of a slice of the call's own, not empty -/
theorem sort_any {B : Nat} {l : List ByteArray} {v : Value} {w : World} (h : OwnSl tStr 9 B w v l) (hl : l.length ≤ 1000000) (hB : B ≤ w.heap.size) :
    Calls Try.prog 38 #[v] w fun e w' => e = .returned (.tuple #[]) ∧ ∃ l', l'.Perm l ∧ l'.Pairwise (fun x y => ltL (codes y) (codes x) = false) ∧ SlIs tStr (fun k => B ≤ k ∧ k < w'.heap.size) w' v l' ∧ Below B w w' := by
  rcases own_holds h with ⟨rfl, rfl⟩ | ⟨g, cp, rfl, p1, p2, p3, p4, p5, p6⟩
  · refine (Try.slices_Sort_string_none none 0 w).mono fun e w' ⟨he, hw⟩ => ⟨he, [], List.Perm.refl _, List.Pairwise.nil, SlIs.nil, ?_⟩
    rw [hw]; exact Below.refl _ _
  · obtain ⟨l', m1, m2, m3⟩ := merge_of l
    have h6 := holds_str.1 p6
    have hs := Try.slices_Sort_string g 0 cp (l.map strL) w h6 p4 (by simp; omega)
    rw [List.length_map] at hs
    refine hs.mono fun e w' ⟨he, n, os, hw⟩ => ⟨he, l', m2, m3, ?_, ?_⟩
    · rw [m1] at hw
      change w' = sortWorld encStr w g 0 n (l'.map strL).toArray os at hw
      have hsz : (l'.map strL).toArray.size = (l.map strL).toArray.size := by simp [m2.length_eq]
      have hh' : Holds encStr w' g 0 (l'.map strL).toArray := by rw [hw]; exact holds_sortWorld encStr w g 0 n (l.map strL).toArray (l'.map strL).toArray os p4 h6 hsz
      have hh := holds_str.2 hh'
      have hg : g < w'.heap.size := by rw [hw]; exact lt_sortWorld _ _ _ _ _ _ _ p4
      have hsl := holds_sl hh hg (by rw [m2.length_eq]; exact p1) p2 (fun x hx => p5 x (m2.mem_iff.1 hx))
      rw [m2.length_eq] at hsl
      obtain ⟨ao, cap, b, off, hv, q1, q2, q3, q4⟩ := hsl
      refine ⟨ao, cap, b, off, hv.trans (by rw [m2.length_eq]), q1, q2, q3, fun k hk => ?_⟩
      obtain ⟨r1, r2, r3, cs, r4, r5⟩ := q4 k hk
      simp only [Value.slice.injEq] at hv
      rw [← hv.1] at r1
      simp only [Option.some.injEq, Addr.mk.injEq] at r1
      exact ⟨by rw [← hv.1]; simp [r1], ⟨by omega, r3⟩, r3, cs, r4, r5⟩
    · rw [hw]; exact sortWorld_below _ _ _ _ _ _ _ hB p3
end Go.Proofs.Ythpmclhpagcbiaa
