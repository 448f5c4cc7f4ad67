/-
  Layer 31 (price): the comparison of two charges.
-/
import Derived.Test.YtifcelebfagjbaaGreatDoorMgB
import Derived.Test.YtifcelebfagjbaaGreatDoorMgD
import Derived.Test.YtifcelebfagjbaaGreatDoorShelf
import Derived.Sort.LotA
import Derived.Test.YtifcelebfagjbaaGreatDoorProg
import Derived.Shelf.SlSortCmp.KitK
import Derived.Deep.LoopGhost
namespace Go.Tw.Po
open Go.RowKit Go.Tw Go.Sort Go.Tw.Ord
theorem compareBytes_eq : ∀ (a b : List UInt8), Lib.compareBytes a b = if ltL (a.map fun x => (x.toNat : Int)) (b.map fun x => (x.toNat : Int)) = true then -1 else if a = b then 0 else 1
  | [], [] => by simp [Lib.compareBytes, ltL]
  | [], _ :: _ => by simp [Lib.compareBytes, ltL]
  | _ :: _, [] => by simp [Lib.compareBytes, ltL]
  | x :: a, y :: b => by
    have ih := compareBytes_eq a b
    unfold Lib.compareBytes
    rw [ih]
    simp only [List.map_cons, ltL, UInt8.lt_iff_toNat_lt]
    by_cases h1 : x.toNat < y.toNat
    · have h1' : (x.toNat : Int) < (y.toNat : Int) := by omega
      have h3 : ¬ (x.toNat : Int) = (y.toNat : Int) := by omega
      simp only [h1, h1', h3, decide_true, if_true, if_false]
    · have h1' : ¬ (x.toNat : Int) < (y.toNat : Int) := by omega
      by_cases h2 : y.toNat < x.toNat
      · have h2' : (y.toNat : Int) < (x.toNat : Int) := by omega
        have hne : x ≠ y := fun e => by subst e; omega
        have h3 : ¬ (x.toNat : Int) = (y.toNat : Int) := by omega
        simp [h1, h2, h1', hne, h3]
      · have h2' : ¬ (y.toNat : Int) < (x.toNat : Int) := by omega
        have he : x = y := UInt8.toNat_inj.1 (by omega)
        subst he
        simp
end Go.Tw.Po
namespace Go.Proofs.YtifcelebfagjbaaGreatDoor
open Go.RowKit Go.Tw Go.Tw.Ord Go.Tw.Po Go.Sort
theorem strings_Compare_any (a b : ByteArray) (w : World) :
    Calls Tryz.prog 96 #[.string a, .string b] w fun e w' => e = .returned (.int .i64 (cmpS a b)) ∧ w' = w := by
  have e : Lib.compareBytes a.data.toList b.data.toList = cmpS a b := by
    rw [compareBytes_eq]
    unfold cmpS
    have h1 : ∀ s : ByteArray, (s.data.toList.map fun x => (x.toNat : Int)) = codes s := fun s => rfl
    rw [h1, h1]
    have h2 : (a.data.toList = b.data.toList) = (a = b) := by
      obtain ⟨⟨la⟩⟩ := a
      obtain ⟨⟨lb⟩⟩ := b
      simp
    simp only [h2]
  rw [← e]
  exact Tryz.strings_Compare a b w
theorem cmpI_eq (x y : Int) : Lib.compareInt x y = cmpI x y := by
  unfold Lib.compareInt cmpI
  rfl
theorem Compare_int_any (x y : Int) (w : World) :
    Calls Tryz.prog 95 #[.int .i64 x, .int .i64 y] w fun e w' => e = .returned (.int .i64 (cmpI x y)) ∧ w' = w := by
  rw [← cmpI_eq]
  exact Tryz.cmp_Compare_int x y w
set_option maxHeartbeats 1000000 in
theorem Or_any (l : List Int) (g : Nat) (w : World) (h : Row 3 w g l) (hl : l.length ≤ 100) :
    Calls Tryz.prog 94 #[.slice (some ⟨g, 0, none⟩) l.length l.length] w fun e w' => e = .returned (.int .i64 (orL l)) ∧ w' = w := by
  have HC := Lib.hid h
  clear h
  go_enter Tryz.func94, Tryz.ntmps94
  go_wp2
  go_loopg [8] l.length (fun gx i wr => ∃ k : Nat, k + gx = l.length ∧ i = .int .i64 k ∧ orL l = orL (l.drop k) ∧ wr = w)
  case atStart => exact ⟨0, by omega, rfl, rfl, rfl⟩
  case round =>
    obtain ⟨k, hk, rfl, he, rfl⟩ := hrel
    have HE := Lib.hid he
    clear he
    by_cases hlt : k < l.length
    · have k0 : (0 : Int) ≤ (k : Int) := by omega
      have k1 : (k : Int) < (l.length : Int) := by omega
      have c0 := HC.out.cell hlt
      have HD := Lib.hid (show orL (l.drop k) = if l[k] = 0 then orL (l.drop (k + 1)) else l[k] by rw [List.drop_eq_getElem_cons hlt, orL])
      obtain ⟨y, hy⟩ : ∃ y, l[k] = y := ⟨_, rfl⟩
      rw [hy] at c0 HD
      clear hy
      by_cases hz : y = 0
      · subst hz
        go_wp2
        go_roundg (l.length - (k + 1))
        case measure => omega
        case rel => exact ⟨k + 1, by omega, by go_num, by rw [HE.out, HD.out]; simp, rfl⟩
      · have hz' : (y != 0) = true := by simp [hz]
        have HZ := Lib.hid hz
        clear hz
        go_wp2
        go_ret
        exact ⟨ret_int (HE.out.trans (HD.out.trans (if_neg HZ.out))), rfl⟩
    · have hkl : ¬ (k : Int) < (l.length : Int) := by omega
      have HN := Lib.hid (show orL l = 0 by rw [HE.out, List.drop_eq_nil_of_le (by omega), orL])
      go_wp2
      go_ret
      exact ⟨ret_int HN.out, rfl⟩
theorem grC {w : World} {b : Nat} {A : Array Value} {t : TypeId} (h : w.heap[b]? = some (.cells A t (0, 0))) (j : Nat) {v : Value} (hv : A[j]? = some v) (n : Nat) (os : Array Obj) : (grow (w.drewN n) os).cell? ⟨b, j, none⟩ = some v := by
  refine cell_grown (lt_of_heap h) ?_ n os
  rw [cell_of_row _ _ _ _ _ _ h, hv]
theorem gr_same {a b : World} (h : b = a) : ∃ q os', b = grow (a.drewN q) os' := ⟨0, #[], by rw [h, grow_empty]; rfl⟩
set_option maxRecDepth 100000 in
set_option maxHeartbeats 4000000 in
theorem compare_any (x y : Chg) (vx vy : Value) (w : World) (h1 : SlIs tSI (· < w.heap.size) w vx x.ls) (h2 : SlIs tSI (· < w.heap.size) w vy y.ls) : Calls Tryz.prog 93 #[.agg (cCells x vx).toArray, .agg (cCells y vy).toArray] w fun e w' => e = .returned (.int .i64 (chgC x y)) ∧ GrB w w' := by
  obtain ⟨A, hA⟩ : ∃ A, (cCells x vx).toArray = A := ⟨_, rfl⟩
  obtain ⟨B, hB⟩ : ∃ A, (cCells y vy).toArray = A := ⟨_, rfl⟩
  rw [hA, hB]
  have HA := Lib.hid hA
  have HB' := Lib.hid hB
  obtain ⟨av, cv, _, _, rfl, -⟩ := id h1
  obtain ⟨au, cu, _, _, rfl, -⟩ := id h2
  clear hA hB h1 h2
  go_enter Tryz.func93, Tryz.ntmps93
  go_upto_region 1 with (fail)
  have n0 := alloc2_0 w (.cells A 49) (.cells B 49)
  have n1 := alloc2_1 w (.cells A 49) (.cells B 49)
  have hb : GrB w ((w.alloc (.cells A 49)).alloc (.cells B 49)) := ((GrB.refl w).alloc _).alloc _
  obtain ⟨wa, hwa⟩ : ∃ wa, (w.alloc (.cells A 49)).alloc (.cells B 49) = wa := ⟨_, rfl⟩
  rw [hwa] at n0 n1 hb ⊢
  clear hwa
  have HB := Lib.hid hb
  clear hb
  have a0 := fun n os => grC n0 0 (v := .string x.key) (by rw [← HA.out]; rfl) n os
  have a4 := fun n os => grC n0 4 (v := .int .i64 x.tm) (by rw [← HA.out]; rfl) n os
  have b0 := fun n os => grC n1 0 (v := .string y.key) (by rw [← HB'.out]; rfl) n os
  have b4 := fun n os => grC n1 4 (v := .int .i64 y.tm) (by rw [← HB'.out]; rfl) n os
  clear n0 n1
  refine wp_region_grown_tail 10 (by kernel_rfl) (by kernel_rfl) ?_
  simp only [List.take_succ_cons, List.take_zero, List.drop_succ_cons, List.drop_zero]
  (repeat (quiet_step (first
                         | (go_at_call 95; with_reducible exact Calls.grown_of ((Compare_int_any _ _ _).mono (fun _ _ h => ⟨h.1, gr_same h.2⟩)))
                         | (go_at_call 96; with_reducible exact Calls.grown_of ((strings_Compare_any _ _ _).mono (fun _ _ h => ⟨h.1, gr_same h.2⟩))))))
  refine wpQuiet_nil ?_
  intro wq hq
  have HQ := Lib.hid (show GrB wa wq from by obtain ⟨⟨n, os⟩, rfl⟩ := hq; exact ⟨n, os, rfl⟩)
  clear hq a0 a4 b0 b4
  have HR := Lib.hid (show chgC x y = orL [cmpI x.tm y.tm, cmpS x.key y.key] from rfl)
  generalize cmpI x.tm y.tm = z0 at *
  generalize cmpS x.key y.key = z1 at *
  have HOR := Lib.hid (show ∀ (g : Nat) (w : World), Row 3 w g [z0, z1] → Calls Tryz.prog 94 #[.slice (some ⟨g, 0, none⟩) 2 2] w fun e w' => e = .returned (.int .i64 (orL [z0, z1])) ∧ w' = w from fun g w h => Or_any [z0, z1] g w h (by simp))
  go_wp2_with (go_at_call 94; refine (HOR.out _ _ (by exact heap_alloc_new _ _)).mono ?_; rintro e w' ⟨rfl, rfl⟩)
  go_ret
  exact ⟨ret_int HR.out, (HB.out.trans HQ.out).alloc _⟩
end Go.Proofs.YtifcelebfagjbaaGreatDoor
/-
  slices.SortStableFunc in plain terms: what its exchanges, rotations and merges do to an array.
-/
namespace Go.Tw.Stab
open Go.Sort
variable {α : Type} [Inhabited α] {lt : α → α → Bool}
theorem eqg {d : Array α} {x y : Nat} (h : x = y) : d[x]! = d[y]! := by rw [h]
/-- n places from a on exchanged with those from b on -/
def Swapped (d : Array α) (a b n : Nat) (d' : Array α) : Prop :=
  ∀ t, d'[t]! = if a ≤ t ∧ t < a + n then d[b + (t - a)]! else if b ≤ t ∧ t < b + n then d[a + (t - b)]! else d[t]!
theorem swapped_zero (d : Array α) (a b : Nat) : Swapped d a b 0 d := fun t => by
  rw [if_neg (by omega), if_neg (by omega)]
theorem swapped_succ {d d1 : Array α} {a b i n : Nat} (h : Swapped d a b i d1) (hab : a + n ≤ b) (hi : i < n) (hb : b + n ≤ d.size) (hs : d1.size = d.size) :
    Swapped d a b (i + 1) (swp d1 (a + i) (b + i)) := fun t => by
  rw [swp_get d1 (by omega) (by omega) t, h t, h (a + i), h (b + i)]
  repeat' split
  all_goals first | omega | exact eqg (by omega)
/-- the parts [x, m) and [m, y) exchanged -/
def Rot (d : Array α) (x m y : Nat) (d' : Array α) : Prop :=
  ∀ t, d'[t]! = if x ≤ t ∧ t < x + (y - m) then d[m + (t - x)]! else if x + (y - m) ≤ t ∧ t < y then d[x + (t - (x + (y - m)))]! else d[t]!
theorem rot_self {d : Array α} {x m y : Nat} (h1 : x ≤ m) (h2 : m ≤ y) (h : x = m ∨ m = y) : Rot d x m y d := fun t => by
  repeat' split
  all_goals first | omega | exact eqg (by omega)
theorem rot_gt {d d1 d2 d' : Array α} {a m b i j : Nat} (h : ∀ d', Rot d1 (m - i) m (m + j) d' → Rot d a m b d') (hj : 0 < j) (hij : j < i) (hi : i ≤ m)
    (h1 : Swapped d1 (m - i) m j d2) (h2 : Rot d2 (m - (i - j)) m (m + j) d') : Rot d a m b d' := h _ fun t => by
  rw [h2 t, h1 (m + (t - (m - (i - j)))), h1 (m - (i - j) + (t - (m - (i - j) + (m + j - m)))), h1 t]
  repeat' split
  all_goals first | omega | exact eqg (by omega)
theorem rot_lt {d d1 d2 d' : Array α} {a m b i j : Nat} (h : ∀ d', Rot d1 (m - i) m (m + j) d' → Rot d a m b d') (hj : 0 < i) (hij : i < j) (hi : i ≤ m)
    (h1 : Swapped d1 (m - i) (m + j - i) i d2) (h2 : Rot d2 (m - i) m (m + (j - i)) d') : Rot d a m b d' := h _ fun t => by
  rw [h2 t, h1 (m + (t - (m - i))), h1 (m - i + (t - (m - i + (m + (j - i) - m)))), h1 t]
  repeat' split
  all_goals first | omega | exact eqg (by omega)
theorem rot_eq {d d1 d2 : Array α} {a m b i : Nat} (h : ∀ d', Rot d1 (m - i) m (m + i) d' → Rot d a m b d') (hi : i ≤ m)
    (h1 : Swapped d1 (m - i) m i d2) : Rot d a m b d2 := h _ fun t => by
  rw [h1 t]
  repeat' split
  all_goals first | omega | exact eqg (by omega)
theorem rot_up {d dk : Array α} {a k : Nat} (h : Rot d a (a + 1) (k + 1) dk) (hk : a ≤ k) (hs : dk.size = d.size) (hb : k + 1 < d.size) : Rot d a (a + 1) (k + 2) (swp dk k (k + 1)) := fun t => by
  rw [swp_get dk (by omega) (by omega) t, h t, h k, h (k + 1)]
  repeat' split
  all_goals first | omega | exact eqg (by omega)
theorem rot_down {d dk : Array α} {m k : Nat} (h : Rot d (k + 1) m (m + 1) dk) (hk : k < m) (hs : dk.size = d.size) (hb : m < d.size) : Rot d k m (m + 1) (swp dk (k + 1) k) := fun t => by
  rw [swp_get dk (by omega) (by omega) t, h t, h k, h (k + 1)]
  repeat' split
  all_goals first | omega | exact eqg (by omega)
theorem sorted_le (hS : SWO lt) {a b : Nat} {d : Array α} (h : SortedIn lt a b d) {i j : Nat} (h1 : a ≤ i) (h2 : i ≤ j) (h3 : j < b) : lt d[j]! d[i]! = false := by
  rcases Nat.lt_or_ge i j with h4 | h4
  · exact h i j h1 h4 h3
  · obtain rfl : i = j := by omega
    exact hS.irrefl _
theorem sorted_congr {a b : Nat} {d d' : Array α} (hs : SortedIn lt a b d) (h : ∀ i, a ≤ i → i < b → d'[i]! = d[i]!) : SortedIn lt a b d' := fun i j hi hij hj => by
  rw [h i hi (by omega), h j (by omega) hj]
  exact hs i j hi hij hj
theorem sorted_shift {a b x y : Nat} {d d' : Array α} (hs : SortedIn lt a b d) (hxy : y - x ≤ b - a) (h : ∀ i, x ≤ i → i < y → d'[i]! = d[a + (i - x)]!) : SortedIn lt x y d' := fun i j hi hij hj => by
  rw [h i hi (by omega), h j (by omega) hj]
  exact hs _ _ (by omega) (by omega) (by omega)
theorem sorted_sub {a b x y : Nat} {d : Array α} (hs : SortedIn lt a b d) (h1 : a ≤ x) (h2 : y ≤ b) : SortedIn lt x y d := fun i j hi hij hj => hs i j (by omega) hij (by omega)
/-- behind the rotation: four sorted parts, the left half not above the right one -/
theorem merge_ready (hS : SWO lt) {a s m e b mid : Nat} {d d1 : Array α} (hL : SortedIn lt a m d) (hR : SortedIn lt m b d) (h1 : a ≤ s) (h2 : s ≤ m) (h3 : m ≤ e) (h4 : e ≤ b) (he : s + e = mid + m)
    (c1 : a < s → e < b → lt d[e]! d[s - 1]! = false) (c2 : s < m → m < e → lt d[e - 1]! d[s]! = true) (hr : Rot d s m e d1) :
    SortedIn lt a s d1 ∧ SortedIn lt s mid d1 ∧ SortedIn lt mid e d1 ∧ SortedIn lt e b d1 ∧ ∀ i j, a ≤ i → i < mid → mid ≤ j → j < b → lt d1[j]! d1[i]! = false := by
  have g1 : ∀ i, i < s → d1[i]! = d[i]! := fun i hi => by rw [hr i, if_neg (by omega), if_neg (by omega)]
  have g2 : ∀ i, s ≤ i → i < mid → d1[i]! = d[m + (i - s)]! := fun i hi hj => by rw [hr i, if_pos (by omega)]
  have g3 : ∀ i, mid ≤ i → i < e → d1[i]! = d[s + (i - mid)]! := fun i hi hj => by rw [hr i, if_neg (by omega), if_pos (by omega)]; exact eqg (by omega)
  have g4 : ∀ i, e ≤ i → d1[i]! = d[i]! := fun i hi => by rw [hr i, if_neg (by omega), if_neg (by omega)]
  refine ⟨sorted_congr (sorted_sub hL (Nat.le_refl _) h2) fun i _ hi => g1 i hi, sorted_shift (sorted_sub hR (Nat.le_refl _) h4) (by omega) g2, sorted_shift (sorted_sub hL h1 (Nat.le_refl _)) (by omega) g3, sorted_congr (sorted_sub hR h3 (Nat.le_refl _)) fun i hi _ => g4 i hi, ?_⟩
  intro i j hi1 hi2 hj1 hj2
  rcases Nat.lt_or_ge i s with hi | hi
  · rw [g1 i hi]
    rcases Nat.lt_or_ge j e with hj | hj
    · rw [g3 j hj1 hj]
      exact sorted_le hS hL hi1 (by omega) (by omega)
    · rw [g4 j hj]
      exact hS.ntrans _ _ _ (sorted_le hS hR h3 hj hj2) (hS.ntrans _ _ _ (c1 (by omega) (by omega)) (sorted_le hS hL hi1 (by omega) (by omega)))
  · rw [g2 i hi hi2]
    rcases Nat.lt_or_ge j e with hj | hj
    · rw [g3 j hj1 hj]
      exact hS.ntrans _ _ _ (sorted_le hS hL h1 (by omega) (by omega)) (hS.ntrans _ _ _ (hS.asymmA (c2 (by omega) (by omega))) (sorted_le hS hR (by omega) (by omega) (by omega)))
    · rw [g4 j hj]
      exact sorted_le hS hR (by omega) (by omega) hj2
/-- both halves sorted: all is -/
theorem merge_done {a b mid : Nat} {d1 d2 d3 : Array α} (h0 : a ≤ mid) (h1 : mid ≤ b) (hb : b ≤ d1.size) (hc : ∀ i j, a ≤ i → i < mid → mid ≤ j → j < b → lt d1[j]! d1[i]! = false)
    (p2 : PermIn a mid d1 d2) (s2 : SortedIn lt a mid d2) (p3 : PermIn mid b d2 d3) (s3 : SortedIn lt mid b d3) : PermIn a b d1 d3 ∧ SortedIn lt a b d3 := by
  have e2 : ∀ i j, a ≤ i → i < mid → mid ≤ j → j < b → lt d2[j]! d2[i]! = false := fun i j hi1 hi2 hj1 hj2 => by
    rw [p2.2.1 j (Or.inr hj1)]
    exact permIn_all d1 d2 a mid (fun x => lt d1[j]! x = false) (by omega) p2 (fun i' h1 h2 => hc i' j h1 h2 hj1 hj2) i hi1 hi2
  have e3 : ∀ i j, a ≤ i → i < mid → mid ≤ j → j < b → lt d3[j]! d3[i]! = false := fun i j hi1 hi2 hj1 hj2 => by
    rw [p3.2.1 i (Or.inl hi2)]
    exact permIn_all d2 d3 mid b (fun x => lt x d2[i]! = false) (by rw [p2.1]; omega) p3 (fun j' h1 h2 => e2 i j' hi1 hi2 h1 h2) j hj1 hj2
  refine ⟨permIn_trans _ _ _ _ _ (permIn_mono d1 d2 a mid a b (Nat.le_refl _) h1 hb p2) (permIn_mono d2 d3 mid b a b h0 (Nat.le_refl _) (by rw [p2.1]; exact hb) p3), fun i j hi hij hj => ?_⟩
  rcases Nat.lt_or_ge j mid with h | h
  · rw [p3.2.1 j (Or.inl h), p3.2.1 i (Or.inl (by omega))]
    exact s2 i j hi hij h
  · rcases Nat.lt_or_ge i mid with h' | h'
    · exact e3 i j hi h' h hj
    · exact s3 i j h' hij hj
/-- one element on the left -/
theorem one_left (hS : SWO lt) {a i b : Nat} {d d1 : Array α} (hR : SortedIn lt (a + 1) b d) (h1 : a + 1 ≤ i) (h2 : i ≤ b)
    (c1 : a + 1 < i → lt d[i - 1]! d[a]! = true) (c2 : i < b → lt d[i]! d[a]! = false) (hr : Rot d a (a + 1) i d1) : SortedIn lt a b d1 := by
  have g1 : ∀ t, a ≤ t → t < i - 1 → d1[t]! = d[t + 1]! := fun t hi hj => by rw [hr t, if_pos (by omega)]; exact eqg (by omega)
  have g2 : d1[i - 1]! = d[a]! := by rw [hr (i - 1), if_neg (by omega), if_pos (by omega)]; exact eqg (by omega)
  have g3 : ∀ t, i ≤ t → d1[t]! = d[t]! := fun t hi => by rw [hr t, if_neg (by omega), if_neg (by omega)]
  intro p q hp hpq hq
  rcases Nat.lt_or_ge p (i - 1) with h | h
  · rw [g1 p hp h]
    rcases Nat.lt_or_ge q (i - 1) with k | k
    · rw [g1 q (by omega) k]
      exact hR _ _ (by omega) (by omega) (by omega)
    · rcases Nat.eq_or_lt_of_le k with k | k
      · rw [← k, g2]
        exact hS.ntrans _ _ _ (hS.asymmA (c1 (by omega))) (sorted_le hS hR (by omega) (by omega) (by omega))
      · rw [g3 q (by omega)]
        exact hR _ _ (by omega) (by omega) hq
  · rcases Nat.eq_or_lt_of_le h with h | h
    · rw [← h, g2, g3 q (by omega)]
      exact hS.ntrans _ _ _ (sorted_le hS hR (by omega) (show i ≤ q by omega) hq) (c2 (by omega))
    · rw [g3 p (by omega), g3 q (by omega)]
      exact hR _ _ (by omega) hpq hq
/-- one element on the right -/
theorem one_right (hS : SWO lt) {a i m : Nat} {d d1 : Array α} (hL : SortedIn lt a m d) (h1 : a ≤ i) (h2 : i ≤ m)
    (c1 : a < i → lt d[m]! d[i - 1]! = false) (c2 : i < m → lt d[m]! d[i]! = true) (hr : Rot d i m (m + 1) d1) : SortedIn lt a (m + 1) d1 := by
  have g1 : ∀ t, t < i → d1[t]! = d[t]! := fun t hi => by rw [hr t, if_neg (by omega), if_neg (by omega)]
  have g2 : d1[i]! = d[m]! := by rw [hr i, if_pos (by omega)]; exact eqg (by omega)
  have g3 : ∀ t, i < t → t < m + 1 → d1[t]! = d[t - 1]! := fun t hi hj => by rw [hr t, if_neg (by omega), if_pos (by omega)]; exact eqg (by omega)
  intro p q hp hpq hq
  rcases Nat.lt_trichotomy p i with h | h | h
  · rw [g1 p h]
    rcases Nat.lt_trichotomy q i with k | k | k
    · rw [g1 q k]
      exact hL _ _ hp hpq (by omega)
    · subst k
      rw [g2]
      exact hS.ntrans _ _ _ (c1 (by omega)) (sorted_le hS hL hp (by omega) (by omega))
    · rw [g3 q k hq]
      exact hL _ _ hp (by omega) (by omega)
  · subst h
    rw [g2, g3 q hpq hq]
    exact hS.ntrans _ _ _ (sorted_le hS hL h1 (show p ≤ q - 1 by omega) (by omega)) (hS.asymmA (c2 (by omega)))
  · rw [g3 p h (by omega), g3 q (by omega) hq]
    exact hL _ _ (by omega) (by omega) (by omega)
end Go.Tw.Stab
/-
  slices.SortStableFunc at structs of k cells: the walks of swapRange and rotate, from a world of the sort's to a world of the sort's.
-/
namespace Go.Proofs.YtifcelebfagjbaaGreatDoor
open Go.RowKit Go.Lib Go.Sort Go.Tw.Stab
/-- what the walks ask of the program: the bodies, their types; the element's size a variable -/
structure StabL (P : Program) (k : Nat) : Prop where
  mixed : P.follows .mixedOrders = true
  fSR : P.funcs[168]? = some Tryz.f168
  fRo : P.funcs[157]? = some Tryz.f157
  fSM : P.funcs[142]? = some Tryz.f142
  fSt : P.funcs[117]? = some Tryz.f117
  fSS : P.funcs[92]? = some Tryz.f92
  eSR : ∀ args w, (callFunc 168 args).run P w = .ok (.enter 168 args) w
  eRo : ∀ args w, (callFunc 157 args).run P w = .ok (.enter 157 args) w
  eSM : ∀ args w, (callFunc 142 args).run P w = .ok (.enter 142 args) w
  eSt : ∀ args w, (callFunc 117 args).run P w = .ok (.enter 117 args) w
  eIn : ∀ args w, (callFunc 141 args).run P w = .ok (.enter 141 args) w
  ti : P.underlying 3 = some (TypeDesc.int IntKind.i64)
  ai : ∀ w, (isAgg 3).run P w = .ok false w
  zi : ∀ w, (Go.sizeOf 3).run P w = .ok 1 w
  vi : ∀ w, (zeroValue 3).run P w = .ok (Value.int IntKind.i64 0) w
  tu : P.underlying 170 = some (TypeDesc.int IntKind.u64)
  au : ∀ w, (isAgg 170).run P w = .ok false w
  zu : ∀ w, (Go.sizeOf 170).run P w = .ok 1 w
  tb : P.underlying 4 = some (TypeDesc.bool)
  ab : ∀ w, (isAgg 4).run P w = .ok false w
  zb : ∀ w, (Go.sizeOf 4).run P w = .ok 1 w
  vb : ∀ w, (zeroValue 4).run P w = .ok (Value.bool false) w
  ts : P.underlying 52 = some (TypeDesc.slice 49)
  asl : ∀ w, (isAgg 52).run P w = .ok false w
  zs : ∀ w, (Go.sizeOf 52).run P w = .ok 1 w
  vs : ∀ w, (zeroValue 52).run P w = .ok (Value.slice none 0 0) w
  af : ∀ w, (isAgg 167).run P w = .ok false w
  zf : ∀ w, (Go.sizeOf 167).run P w = .ok 1 w
  aE : ∀ w, (isAgg 49).run P w = .ok true w
  zE : ∀ w, (Go.sizeOf 49).run P w = .ok k w
section
variable {P : Program} {α : Type} [Inhabited α]
set_option maxHeartbeats 4000000 in
set_option maxRecDepth 1000000 in
theorem swapRange_any {k : Nat} (L : StabL P k) (enc : α → List Value) (g : Nat) (cb : Array Value) (blk off cap a b n : Nat) (d0 d : Array α) (w0 w : World)
    (R : RowK enc k w0 blk off d0) (hs : d0.size = d.size) (S : SWK enc k w0 blk off d w) (hab : a + n ≤ b) (hb : b + n ≤ d.size) (hsz : d.size < 4611686018427387904) :
    Calls P 168 #[.slice (some ⟨blk, off, none⟩) d.size cap, .int .i64 a, .int .i64 b, .int .i64 n, .func (.func g) #[] cb] w fun e w' =>
      e = .returned (.tuple #[]) ∧ ∃ d', PermIn a (b + n) d d' ∧ Swapped d a b n d' ∧ SWK enc k w0 blk off d' w' := by
  have mixed := L.mixed
  have ti := L.ti
  have ai := L.ai
  have zi := L.zi
  have vi := L.vi
  have tu := L.tu
  have au := L.au
  have zu := L.zu
  have tb := L.tb
  have ab := L.ab
  have zb := L.zb
  have vb := L.vb
  have ts := L.ts
  have asl := L.asl
  have zs := L.zs
  have vs := L.vs
  have af := L.af
  have zf := L.zf
  have aE := L.aE
  have zE := L.zE
  have FG := L.fSR
  have S0 : Aside (SWK enc k w0 blk off d w) := S
  clear S
  go_enter FG, Tryz.ntmps168
  go_wp2
  go_loopg [10] n (fun gx si wr => ∃ (i : Nat) (dk : Array α), si = .int .i64 i ∧ i + gx = n ∧ Aside (SWK enc k w0 blk off dk wr) ∧ Aside (PermIn a (b + n) d dk ∧ Swapped d a b i dk) ∧ dk.size = d.size)
  case atStart => exact ⟨0, d, rfl, by omega, S0, ⟨permIn_refl _ _ _, swapped_zero _ _ _⟩, rfl⟩
  case round =>
    clear S0
    obtain ⟨i, dk, rfl, hi, S1, HP, hds⟩ := hrel
    by_cases hlt : i < n
    · have hlt' : (i : Int) < (n : Int) := by omega
      go_wp2_with fail
      have ea : ((a : Int) + (i : Int)).toNat = a + i := by omega
      have pa : (0 : Int) ≤ (a : Int) + (i : Int) := by omega
      have ba : (a : Int) + (i : Int) < (d.size : Int) := by omega
      have ra : IntKind.i64.wrap ((a : Int) + (i : Int)) = (a : Int) + (i : Int) := by rw [IntKind.wrap_i64]; omega
      have ec : ((b : Int) + (i : Int)).toNat = b + i := by omega
      have pc : (0 : Int) ≤ (b : Int) + (i : Int) := by omega
      have bc : (b : Int) + (i : Int) < (d.size : Int) := by omega
      have rc : IntKind.i64.wrap ((b : Int) + (i : Int)) = (b : Int) + (i : Int) := by rw [IntKind.wrap_i64]; omega
      have S2 : Aside (SWK enc k w0 blk off (swp dk (a + i) (b + i)) ((wr.drew.setCells blk (off + (a + i) * k) (enc dk[b + i]!)).setCells blk (off + (b + i) * k) (enc dk[a + i]!))) := S1.out.swapped R (a + i) (b + i) (by omega) (by omega)
      have la := S1.out.ld1 R (by omega) P (a + i) (by omega)
      have lb := S1.out.ld1 R (by omega) P (b + i) (by omega)
      have sa := S1.out.st1 R (by omega) P (a + i) (by omega) dk[b + i]!
      have sb := S1.out.st2 R (by omega) P (a + i) (b + i) (by omega) (by omega) dk[b + i]! dk[a + i]!
      have na : (enc dk[a + i]!).length = k := R.hk _
      have nb : (enc dk[b + i]!).length = k := R.hk _
      generalize enc dk[a + i]! = cI at S2 la sb na
      generalize enc dk[b + i]! = cJ at S2 lb sa sb nb
      clear S1
      go_wp2_with fail
      go_big_region_o
      clear la lb sa sb ea pa ba ra ec pc bc rc na nb
      generalize (wr.drew.setCells blk (off + (a + i) * k) cJ).setCells blk (off + (b + i) * k) cI = w2 at S2 ⊢
      go_wp2
      go_roundg (n - (i + 1))
      case measure => omega
      case rel => exact ⟨i + 1, _, by go_num, by omega, S2, ⟨permIn_trans _ _ _ _ _ HP.out.1 (swp_permIn _ _ _ _ _ (by omega) (by omega) (by omega) (by omega) (by omega)), swapped_succ HP.out.2 hab hlt hb hds⟩, by rw [size_swp]; exact hds⟩
    · have hlt' : ¬ (i : Int) < (n : Int) := by omega
      obtain rfl : i = n := by omega
      go_wp2
      go_end0
      exact ⟨rfl, dk, HP.out.1, HP.out.2, S1.out⟩
end
end Go.Proofs.YtifcelebfagjbaaGreatDoor
/-
  slices.SortStableFunc at structs of k cells: the walk of rotate.
-/
namespace Go.Proofs.YtifcelebfagjbaaGreatDoor
open Go.RowKit Go.Lib Go.Sort Go.Tw.Stab
section
variable {P : Program} {α : Type} [Inhabited α]
set_option maxHeartbeats 4000000 in
set_option maxRecDepth 1000000 in
theorem rotate_any {k : Nat} (L : StabL P k) (enc : α → List Value) (g : Nat) (cb : Array Value) (blk off cap a m b : Nat) (d0 d : Array α) (w0 w : World)
    (R : RowK enc k w0 blk off d0) (hs : d0.size = d.size) (S : SWK enc k w0 blk off d w) (ham : a < m) (hmb : m < b) (hb : b ≤ d.size) (hsz : d.size < 4611686018427387904) :
    Calls P 157 #[.slice (some ⟨blk, off, none⟩) d.size cap, .int .i64 a, .int .i64 m, .int .i64 b, .func (.func g) #[] cb] w fun e w' =>
      e = .returned (.tuple #[]) ∧ ∃ d', PermIn a b d d' ∧ Rot d a m b d' ∧ SWK enc k w0 blk off d' w' := by
  have mixed := L.mixed
  have ti := L.ti
  have ai := L.ai
  have zi := L.zi
  have vi := L.vi
  have tu := L.tu
  have au := L.au
  have zu := L.zu
  have tb := L.tb
  have ab := L.ab
  have zb := L.zb
  have vb := L.vb
  have ts := L.ts
  have asl := L.asl
  have zs := L.zs
  have vs := L.vs
  have af := L.af
  have zf := L.zf
  have aE := L.aE
  have zE := L.zE
  have FG := L.fRo
  have e88 := L.eSR
  have S0 : Aside (SWK enc k w0 blk off d w) := S
  clear S
  go_enter FG, Tryz.ntmps157
  go_wp2
  go_loopg [10, 11] (b - a) (fun gx si sj wr => ∃ (i j : Nat) (dk : Array α), si = .int .i64 i ∧ sj = .int .i64 j ∧ 0 < i ∧ 0 < j ∧ a + i ≤ m ∧ m + j ≤ b ∧ i + j ≤ gx ∧ Aside (SWK enc k w0 blk off dk wr) ∧ Aside (PermIn a b d dk ∧ ∀ d', Rot dk (m - i) m (m + j) d' → Rot d a m b d') ∧ dk.size = d.size)
  case atStart => exact ⟨m - a, b - m, d, by go_num, by go_num, by omega, by omega, by omega, by omega, by omega, S0, ⟨permIn_refl _ _ _, fun d' h => by rwa [show m - (m - a) = a by omega, show m + (b - m) = b by omega] at h⟩, rfl⟩
  case round =>
    clear S0
    obtain ⟨i, j, dk, rfl, rfl, hi, hj, hia, hjb, hg, S1, HP, hds⟩ := hrel
    have emi : ((m - i : Nat) : Int) = (m : Int) - (i : Int) := by omega
    by_cases hij : i = j
    · subst hij
      have hne : ((i : Int) != (i : Int)) = false := by simp
      have hcall := swapRange_any L enc g cb blk off cap (m - i) m i d0 dk w0 wr R (by omega) S1.out (by omega) (by omega) (by omega)
      rw [emi, hds] at hcall
      clear S1
      go_wp2_with (go_at_fn 168; refine hcall.mono ?_; rintro e w1 ⟨rfl, d1, q1, q2, q3⟩)
      go_end0
      exact ⟨rfl, d1, permIn_trans _ _ _ _ _ HP.out.1 (permIn_mono _ _ _ _ _ _ (by omega) (by omega) (by omega) q1), rot_eq HP.out.2 (by omega) q2, q3⟩
    · have hne : ((i : Int) != (j : Int)) = true := by simp; omega
      by_cases hgt : j < i
      · have hgt' : (j : Int) < (i : Int) := by omega
        have hcall := swapRange_any L enc g cb blk off cap (m - i) m j d0 dk w0 wr R (by omega) S1.out (by omega) (by omega) (by omega)
        rw [emi, hds] at hcall
        clear S1
        go_wp2_with (go_at_fn 168; refine hcall.mono ?_; rintro e w1 ⟨rfl, d1, q1, q2, q3⟩)
        go_roundg (i - j + j)
        case measure => omega
        case rel => exact ⟨i - j, j, d1, by go_num, rfl, by omega, hj, by omega, hjb, by omega, q3, ⟨permIn_trans _ _ _ _ _ HP.out.1 (permIn_mono _ _ _ _ _ _ (by omega) (by omega) (by omega) q1), fun d' h => rot_gt HP.out.2 hj hgt (by omega) q2 h⟩, by rw [q1.1]; exact hds⟩
      · have hgt' : ¬ (j : Int) < (i : Int) := by omega
        have emj : ((m + j - i : Nat) : Int) = (m : Int) + (j : Int) - (i : Int) := by omega
        have hcall := swapRange_any L enc g cb blk off cap (m - i) (m + j - i) i d0 dk w0 wr R (by omega) S1.out (by omega) (by omega) (by omega)
        rw [emi, emj, hds] at hcall
        clear S1
        go_wp2_with (go_at_fn 168; refine hcall.mono ?_; rintro e w1 ⟨rfl, d1, q1, q2, q3⟩)
        go_roundg (i + (j - i))
        case measure => omega
        case rel => exact ⟨i, j - i, d1, rfl, by go_num, hi, by omega, hia, by omega, by omega, q3, ⟨permIn_trans _ _ _ _ _ HP.out.1 (permIn_mono _ _ _ _ _ _ (by omega) (by omega) (by omega) q1), fun d' h => rot_lt HP.out.2 hi (by omega) (by omega) q2 h⟩, by rw [q1.1]; exact hds⟩
end
end Go.Proofs.YtifcelebfagjbaaGreatDoor
