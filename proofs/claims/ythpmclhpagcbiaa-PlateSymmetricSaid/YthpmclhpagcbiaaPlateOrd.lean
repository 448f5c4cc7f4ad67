/-
  Layer 10 (plate) in plain Lean: the order of strings.
-/
import Derived.Test.YthpmclhpagcbiaaPlateNearS
namespace Go.Tw.Plate
open Go.RowKit Go.Sort

theorem ltL_irrefl : ∀ a : List Int, ltL a a = false
  | [] => rfl
  | x :: a => by rw [ltL, if_pos rfl, ltL_irrefl a]
theorem ltL_total : ∀ a b : List Int, ltL a b = false → ltL b a = false → a = b
  | [], [], _, _ => rfl
  | [], _ :: _, h, _ => by simp [ltL] at h
  | _ :: _, [], _, h => by simp [ltL] at h
  | x :: a, y :: b, h1, h2 => by
    by_cases e : x = y
    · subst e
      rw [ltL, if_pos rfl] at h1 h2
      rw [ltL_total a b h1 h2]
    · rw [ltL, if_neg e] at h1
      rw [ltL, if_neg (fun q => e q.symm)] at h2
      simp at h1 h2
      omega
theorem ltL_trans : ∀ a b c : List Int, ltL a b = true → ltL b c = true → ltL a c = true
  | [], _, [], h1, h2 => by
    rename_i b
    cases b <;> simp [ltL] at h1 h2
  | [], _, _ :: _, _, _ => rfl
  | _ :: _, [], _, h1, _ => by simp [ltL] at h1
  | _ :: _, _ :: _, [], _, h2 => by simp [ltL] at h2
  | x :: a, y :: b, z :: c, h1, h2 => by
    rw [ltL] at h1 h2 ⊢
    by_cases e1 : x = y <;> by_cases e2 : y = z
    · subst e1; subst e2
      rw [if_pos rfl] at h1 h2 ⊢
      exact ltL_trans a b c h1 h2
    · subst e1
      rw [if_neg e2] at h2 ⊢
      exact h2
    · subst e2
      rw [if_neg e1] at h1 ⊢
      exact h1
    · rw [if_neg e1] at h1
      rw [if_neg e2] at h2
      simp at h1 h2
      rw [if_neg (by omega)]
      simp; omega
theorem ltL_asymm {a b : List Int} (h : ltL a b = true) : ltL b a = false := by
  cases q : ltL b a
  · rfl
  · have := ltL_trans a b a h q
    rw [ltL_irrefl] at this; cases this
theorem less_codes : ∀ (x y : List UInt8), Op.bytesLess x y = ltL (x.map fun c => (c.toNat : Int)) (y.map fun c => (c.toNat : Int))
  | [], [] => by simp [Op.bytesLess, ltL]
  | _ :: _, [] => by simp [Op.bytesLess, ltL]
  | [], _ :: _ => by simp [Op.bytesLess, ltL]
  | a :: x, b :: y => by
    rw [Op.bytesLess, less_codes x y, List.map_cons, List.map_cons, ltL]
    by_cases h : a = b
    · subst h
      simp
    · have h' : ¬ (a.toNat : Int) = (b.toNat : Int) := fun q => h (UInt8.toNat_inj.mp (by omega))
      rw [if_neg h']
      simp [h, UInt8.lt_iff_toNat_lt]
theorem less_str (s t : ByteArray) : Op.bytesLess s.toList t.toList = ltL (codes s) (codes t) := by
  rw [Lib.toList_data, Lib.toList_data, less_codes]
  rfl
theorem cmpS_lt (s t : ByteArray) : decide (cmpS s t < 0) = ltL (codes s) (codes t) := by
  unfold cmpS
  rw [less_str]
  cases ltL (codes s) (codes t)
  · rw [if_neg (by simp)]
    split <;> rfl
  · rfl
end Go.Tw.Plate
namespace Go.Proofs.Ythpmclhpagcbiaa
open Go.RowKit Go.Tw Go.Tw.Plate Go.Sort
theorem near_lt (fi : ByteArray → Int) (x y : ByteArray) : ltOf (nearC fi) x y = (decide (fi x < fi y) || (decide (fi x = fi y) && ltL (codes x) (codes y))) := by
  unfold ltOf nearC orI Lib.compareInt
  rw [← cmpS_lt]
  by_cases h1 : fi x < fi y
  · simp [h1]
  · by_cases h2 : fi y < fi x
    · have h3 : ¬ fi x = fi y := by omega
      simp [h1, h2, h3]
    · have h3 : fi x = fi y := by omega
      simp [h3]
theorem near_swo (fi : ByteArray → Int) : SWO (ltOf (nearC fi)) where
  irrefl x := by rw [near_lt, ltL_irrefl]; simp
  trans x y z h1 h2 := by
    rw [near_lt] at h1 h2 ⊢
    simp at h1 h2 ⊢
    rcases h1 with h1 | ⟨h1, h1'⟩ <;> rcases h2 with h2 | ⟨h2, h2'⟩
    · exact .inl (by omega)
    · exact .inl (by omega)
    · exact .inl (by omega)
    · exact .inr ⟨by omega, ltL_trans _ _ _ h1' h2'⟩
  ntrans x y z h1 h2 := by
    rw [near_lt] at h1 h2 ⊢
    simp at h1 h2 ⊢
    refine ⟨by omega, fun e => ?_⟩
    have a1 := h1.2 (by omega)
    have a2 := h2.2 (by omega)
    cases q : ltL (codes x) (codes z)
    · rfl
    · by_cases e1 : codes x = codes y
      · rw [e1, a2] at q; cases q
      · by_cases e2 : ltL (codes y) (codes x) = true
        · rw [ltL_trans _ _ _ e2 q] at a2; cases a2
        · exact absurd (ltL_total _ _ a1 (by simpa using e2)) e1
end Go.Proofs.Ythpmclhpagcbiaa
