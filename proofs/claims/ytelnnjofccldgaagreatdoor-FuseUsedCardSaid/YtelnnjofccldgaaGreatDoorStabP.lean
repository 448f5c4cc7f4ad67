/-
  slices.SortStableFunc in plain terms: what its exchanges, rotations and merges do to an array.
-/
import Derived.Sort.LotA
namespace Go.Tw.Stab
open Go.Sort
variable {α : Type} [Inhabited α] {lt : α → α → Bool}
theorem eqg {d : Array α} {x y : Nat} (h : x = y) : d[x]! = d[y]! := by rw [h]
/-- n places from a on exchanged with those from b on -/
def Swapped (d : Array α) (a b n : Nat) (d' : Array α) : Prop :=
  ∀ t, d'[t]! = if a ≤ t ∧ t < a + n then d[b + (t - a)]! else if b ≤ t ∧ t < b + n then d[a + (t - b)]! else d[t]!
theorem swapped_zero (d : Array α) (a b : Nat) : Swapped d a b 0 d := fun t => by
  rw [if_neg (by omega), if_neg (by omega)]
theorem swapped_succ {d d1 : Array α} {a b i n : Nat} (h : Swapped d a b i d1) (hab : a + n ≤ b) (hi : i < n) (hb : b + n ≤ d.size) (hs : d1.size = d.size) :
    Swapped d a b (i + 1) (swp d1 (a + i) (b + i)) := fun t => by
  rw [swp_get d1 (by omega) (by omega) t, h t, h (a + i), h (b + i)]
  repeat' split
  all_goals first | omega | exact eqg (by omega)
/-- the parts [x, m) and [m, y) exchanged -/
def Rot (d : Array α) (x m y : Nat) (d' : Array α) : Prop :=
  ∀ t, d'[t]! = if x ≤ t ∧ t < x + (y - m) then d[m + (t - x)]! else if x + (y - m) ≤ t ∧ t < y then d[x + (t - (x + (y - m)))]! else d[t]!
theorem rot_self {d : Array α} {x m y : Nat} (h1 : x ≤ m) (h2 : m ≤ y) (h : x = m ∨ m = y) : Rot d x m y d := fun t => by
  repeat' split
  all_goals first | omega | exact eqg (by omega)
theorem rot_gt {d d1 d2 d' : Array α} {a m b i j : Nat} (h : ∀ d', Rot d1 (m - i) m (m + j) d' → Rot d a m b d') (hj : 0 < j) (hij : j < i) (hi : i ≤ m)
    (h1 : Swapped d1 (m - i) m j d2) (h2 : Rot d2 (m - (i - j)) m (m + j) d') : Rot d a m b d' := h _ fun t => by
  rw [h2 t, h1 (m + (t - (m - (i - j)))), h1 (m - (i - j) + (t - (m - (i - j) + (m + j - m)))), h1 t]
  repeat' split
  all_goals first | omega | exact eqg (by omega)
theorem rot_lt {d d1 d2 d' : Array α} {a m b i j : Nat} (h : ∀ d', Rot d1 (m - i) m (m + j) d' → Rot d a m b d') (hj : 0 < i) (hij : i < j) (hi : i ≤ m)
    (h1 : Swapped d1 (m - i) (m + j - i) i d2) (h2 : Rot d2 (m - i) m (m + (j - i)) d') : Rot d a m b d' := h _ fun t => by
  rw [h2 t, h1 (m + (t - (m - i))), h1 (m - i + (t - (m - i + (m + (j - i) - m)))), h1 t]
  repeat' split
  all_goals first | omega | exact eqg (by omega)
theorem rot_eq {d d1 d2 : Array α} {a m b i : Nat} (h : ∀ d', Rot d1 (m - i) m (m + i) d' → Rot d a m b d') (hi : i ≤ m)
    (h1 : Swapped d1 (m - i) m i d2) : Rot d a m b d2 := h _ fun t => by
  rw [h1 t]
  repeat' split
  all_goals first | omega | exact eqg (by omega)
theorem rot_up {d dk : Array α} {a k : Nat} (h : Rot d a (a + 1) (k + 1) dk) (hk : a ≤ k) (hs : dk.size = d.size) (hb : k + 1 < d.size) : Rot d a (a + 1) (k + 2) (swp dk k (k + 1)) := fun t => by
  rw [swp_get dk (by omega) (by omega) t, h t, h k, h (k + 1)]
  repeat' split
  all_goals first | omega | exact eqg (by omega)
theorem rot_down {d dk : Array α} {m k : Nat} (h : Rot d (k + 1) m (m + 1) dk) (hk : k < m) (hs : dk.size = d.size) (hb : m < d.size) : Rot d k m (m + 1) (swp dk (k + 1) k) := fun t => by
  rw [swp_get dk (by omega) (by omega) t, h t, h k, h (k + 1)]
  repeat' split
  all_goals first | omega | exact eqg (by omega)
theorem sorted_le (hS : SWO lt) {a b : Nat} {d : Array α} (h : SortedIn lt a b d) {i j : Nat} (h1 : a ≤ i) (h2 : i ≤ j) (h3 : j < b) : lt d[j]! d[i]! = false := by
  rcases Nat.lt_or_ge i j with h4 | h4
  · exact h i j h1 h4 h3
  · obtain rfl : i = j := by omega
    exact hS.irrefl _
theorem sorted_congr {a b : Nat} {d d' : Array α} (hs : SortedIn lt a b d) (h : ∀ i, a ≤ i → i < b → d'[i]! = d[i]!) : SortedIn lt a b d' := fun i j hi hij hj => by
  rw [h i hi (by omega), h j (by omega) hj]
  exact hs i j hi hij hj
theorem sorted_shift {a b x y : Nat} {d d' : Array α} (hs : SortedIn lt a b d) (hxy : y - x ≤ b - a) (h : ∀ i, x ≤ i → i < y → d'[i]! = d[a + (i - x)]!) : SortedIn lt x y d' := fun i j hi hij hj => by
  rw [h i hi (by omega), h j (by omega) hj]
  exact hs _ _ (by omega) (by omega) (by omega)
theorem sorted_sub {a b x y : Nat} {d : Array α} (hs : SortedIn lt a b d) (h1 : a ≤ x) (h2 : y ≤ b) : SortedIn lt x y d := fun i j hi hij hj => hs i j (by omega) hij (by omega)
/-- behind the rotation: four sorted parts, the left half not above the right one -/
theorem merge_ready (hS : SWO lt) {a s m e b mid : Nat} {d d1 : Array α} (hL : SortedIn lt a m d) (hR : SortedIn lt m b d) (h1 : a ≤ s) (h2 : s ≤ m) (h3 : m ≤ e) (h4 : e ≤ b) (he : s + e = mid + m)
    (c1 : a < s → e < b → lt d[e]! d[s - 1]! = false) (c2 : s < m → m < e → lt d[e - 1]! d[s]! = true) (hr : Rot d s m e d1) :
    SortedIn lt a s d1 ∧ SortedIn lt s mid d1 ∧ SortedIn lt mid e d1 ∧ SortedIn lt e b d1 ∧ ∀ i j, a ≤ i → i < mid → mid ≤ j → j < b → lt d1[j]! d1[i]! = false := by
  have g1 : ∀ i, i < s → d1[i]! = d[i]! := fun i hi => by rw [hr i, if_neg (by omega), if_neg (by omega)]
  have g2 : ∀ i, s ≤ i → i < mid → d1[i]! = d[m + (i - s)]! := fun i hi hj => by rw [hr i, if_pos (by omega)]
  have g3 : ∀ i, mid ≤ i → i < e → d1[i]! = d[s + (i - mid)]! := fun i hi hj => by rw [hr i, if_neg (by omega), if_pos (by omega)]; exact eqg (by omega)
  have g4 : ∀ i, e ≤ i → d1[i]! = d[i]! := fun i hi => by rw [hr i, if_neg (by omega), if_neg (by omega)]
  refine ⟨sorted_congr (sorted_sub hL (Nat.le_refl _) h2) fun i _ hi => g1 i hi, sorted_shift (sorted_sub hR (Nat.le_refl _) h4) (by omega) g2, sorted_shift (sorted_sub hL h1 (Nat.le_refl _)) (by omega) g3, sorted_congr (sorted_sub hR h3 (Nat.le_refl _)) fun i hi _ => g4 i hi, ?_⟩
  intro i j hi1 hi2 hj1 hj2
  rcases Nat.lt_or_ge i s with hi | hi
  · rw [g1 i hi]
    rcases Nat.lt_or_ge j e with hj | hj
    · rw [g3 j hj1 hj]
      exact sorted_le hS hL hi1 (by omega) (by omega)
    · rw [g4 j hj]
      exact hS.ntrans _ _ _ (sorted_le hS hR h3 hj hj2) (hS.ntrans _ _ _ (c1 (by omega) (by omega)) (sorted_le hS hL hi1 (by omega) (by omega)))
  · rw [g2 i hi hi2]
    rcases Nat.lt_or_ge j e with hj | hj
    · rw [g3 j hj1 hj]
      exact hS.ntrans _ _ _ (sorted_le hS hL h1 (by omega) (by omega)) (hS.ntrans _ _ _ (hS.asymmA (c2 (by omega) (by omega))) (sorted_le hS hR (by omega) (by omega) (by omega)))
    · rw [g4 j hj]
      exact sorted_le hS hR (by omega) (by omega) hj2
/-- both halves sorted: all is -/
theorem merge_done {a b mid : Nat} {d1 d2 d3 : Array α} (h0 : a ≤ mid) (h1 : mid ≤ b) (hb : b ≤ d1.size) (hc : ∀ i j, a ≤ i → i < mid → mid ≤ j → j < b → lt d1[j]! d1[i]! = false)
    (p2 : PermIn a mid d1 d2) (s2 : SortedIn lt a mid d2) (p3 : PermIn mid b d2 d3) (s3 : SortedIn lt mid b d3) : PermIn a b d1 d3 ∧ SortedIn lt a b d3 := by
  have e2 : ∀ i j, a ≤ i → i < mid → mid ≤ j → j < b → lt d2[j]! d2[i]! = false := fun i j hi1 hi2 hj1 hj2 => by
    rw [p2.2.1 j (Or.inr hj1)]
    exact permIn_all d1 d2 a mid (fun x => lt d1[j]! x = false) (by omega) p2 (fun i' h1 h2 => hc i' j h1 h2 hj1 hj2) i hi1 hi2
  have e3 : ∀ i j, a ≤ i → i < mid → mid ≤ j → j < b → lt d3[j]! d3[i]! = false := fun i j hi1 hi2 hj1 hj2 => by
    rw [p3.2.1 i (Or.inl hi2)]
    exact permIn_all d2 d3 mid b (fun x => lt x d2[i]! = false) (by rw [p2.1]; omega) p3 (fun j' h1 h2 => e2 i j' hi1 hi2 h1 h2) j hj1 hj2
  refine ⟨permIn_trans _ _ _ _ _ (permIn_mono d1 d2 a mid a b (Nat.le_refl _) h1 hb p2) (permIn_mono d2 d3 mid b a b h0 (Nat.le_refl _) (by rw [p2.1]; exact hb) p3), fun i j hi hij hj => ?_⟩
  rcases Nat.lt_or_ge j mid with h | h
  · rw [p3.2.1 j (Or.inl h), p3.2.1 i (Or.inl (by omega))]
    exact s2 i j hi hij h
  · rcases Nat.lt_or_ge i mid with h' | h'
    · exact e3 i j hi h' h hj
    · exact s3 i j h' hij hj
/-- one element on the left -/
theorem one_left (hS : SWO lt) {a i b : Nat} {d d1 : Array α} (hR : SortedIn lt (a + 1) b d) (h1 : a + 1 ≤ i) (h2 : i ≤ b)
    (c1 : a + 1 < i → lt d[i - 1]! d[a]! = true) (c2 : i < b → lt d[i]! d[a]! = false) (hr : Rot d a (a + 1) i d1) : SortedIn lt a b d1 := by
  have g1 : ∀ t, a ≤ t → t < i - 1 → d1[t]! = d[t + 1]! := fun t hi hj => by rw [hr t, if_pos (by omega)]; exact eqg (by omega)
  have g2 : d1[i - 1]! = d[a]! := by rw [hr (i - 1), if_neg (by omega), if_pos (by omega)]; exact eqg (by omega)
  have g3 : ∀ t, i ≤ t → d1[t]! = d[t]! := fun t hi => by rw [hr t, if_neg (by omega), if_neg (by omega)]
  intro p q hp hpq hq
  rcases Nat.lt_or_ge p (i - 1) with h | h
  · rw [g1 p hp h]
    rcases Nat.lt_or_ge q (i - 1) with k | k
    · rw [g1 q (by omega) k]
      exact hR _ _ (by omega) (by omega) (by omega)
    · rcases Nat.eq_or_lt_of_le k with k | k
      · rw [← k, g2]
        exact hS.ntrans _ _ _ (hS.asymmA (c1 (by omega))) (sorted_le hS hR (by omega) (by omega) (by omega))
      · rw [g3 q (by omega)]
        exact hR _ _ (by omega) (by omega) hq
  · rcases Nat.eq_or_lt_of_le h with h | h
    · rw [← h, g2, g3 q (by omega)]
      exact hS.ntrans _ _ _ (sorted_le hS hR (by omega) (show i ≤ q by omega) hq) (c2 (by omega))
    · rw [g3 p (by omega), g3 q (by omega)]
      exact hR _ _ (by omega) hpq hq
/-- one element on the right -/
theorem one_right (hS : SWO lt) {a i m : Nat} {d d1 : Array α} (hL : SortedIn lt a m d) (h1 : a ≤ i) (h2 : i ≤ m)
    (c1 : a < i → lt d[m]! d[i - 1]! = false) (c2 : i < m → lt d[m]! d[i]! = true) (hr : Rot d i m (m + 1) d1) : SortedIn lt a (m + 1) d1 := by
  have g1 : ∀ t, t < i → d1[t]! = d[t]! := fun t hi => by rw [hr t, if_neg (by omega), if_neg (by omega)]
  have g2 : d1[i]! = d[m]! := by rw [hr i, if_pos (by omega)]; exact eqg (by omega)
  have g3 : ∀ t, i < t → t < m + 1 → d1[t]! = d[t - 1]! := fun t hi hj => by rw [hr t, if_neg (by omega), if_pos (by omega)]; exact eqg (by omega)
  intro p q hp hpq hq
  rcases Nat.lt_trichotomy p i with h | h | h
  · rw [g1 p h]
    rcases Nat.lt_trichotomy q i with k | k | k
    · rw [g1 q k]
      exact hL _ _ hp hpq (by omega)
    · subst k
      rw [g2]
      exact hS.ntrans _ _ _ (c1 (by omega)) (sorted_le hS hL hp (by omega) (by omega))
    · rw [g3 q k hq]
      exact hL _ _ hp (by omega) (by omega)
  · subst h
    rw [g2, g3 q hpq hq]
    exact hS.ntrans _ _ _ (sorted_le hS hL h1 (show p ≤ q - 1 by omega) (by omega)) (hS.asymmA (c2 (by omega)))
  · rw [g3 p h (by omega), g3 q (by omega) hq]
    exact hL _ _ (by omega) (by omega) (by omega)
end Go.Tw.Stab
