/-
  Layer proofs, merged: StabP PoW PoW2 PoW3 PoW4 PoX.
-/
import Derived.Sort.LotA
import Derived.Test.YtifcelebfagjbaaGreatDoorProg
import Derived.Shelf.SlSortCmp.KitK
import Derived.Deep.LoopGhost
import Derived.Deep.Cut
import Derived.Deep.CutBlock
import Derived.Deep.DeepCutAuto
import Derived.Lib.Hide
import Derived.Test.YtifcelebfagjbaaGreatDoorMgC
import Derived.Test.YtifcelebfagjbaaGreatDoorMgM
import Derived.Test.YtifcelebfagjbaaGreatDoorShelf3
import Derived.Test.YtifcelebfagjbaaGreatDoorMgJ
import Derived.Test.YtifcelebfagjbaaGreatDoorMgA
import Derived.Lib.LazyBuf
namespace Go.Tw.Stab
open Go.Sort
variable {α : Type} [Inhabited α] {lt : α → α → Bool}
theorem eqg {d : Array α} {x y : Nat} (h : x = y) : d[x]! = d[y]! := by rw [h]
def Swapped (d : Array α) (a b n : Nat) (d' : Array α) : Prop :=
 ∀ t, d'[t]! = if a ≤ t ∧ t < a + n then d[b + (t - a)]! else if b ≤ t ∧ t < b + n then d[a + (t - b)]! else d[t]!
theorem swapped_zero (d : Array α) (a b : Nat) : Swapped d a b 0 d := fun t => by
 rw [if_neg (by omega), if_neg (by omega)]
theorem swapped_succ {d d1 : Array α} {a b i n : Nat} (h : Swapped d a b i d1) (hab : a + n ≤ b) (hi : i < n) (hb : b + n ≤ d.size) (hs : d1.size = d.size) :
  Swapped d a b (i + 1) (swp d1 (a + i) (b + i)) := fun t => by
 rw [swp_get d1 (by omega) (by omega) t, h t, h (a + i), h (b + i)]
 repeat' split
 all_goals first | omega | exact eqg (by omega)
def Rot (d : Array α) (x m y : Nat) (d' : Array α) : Prop :=
 ∀ t, d'[t]! = if x ≤ t ∧ t < x + (y - m) then d[m + (t - x)]! else if x + (y - m) ≤ t ∧ t < y then d[x + (t - (x + (y - m)))]! else d[t]!
theorem rot_self {d : Array α} {x m y : Nat} (h1 : x ≤ m) (h2 : m ≤ y) (h : x = m ∨ m = y) : Rot d x m y d := fun t => by
 repeat' split
 all_goals first | omega | exact eqg (by omega)
theorem rot_gt {d d1 d2 d' : Array α} {a m b i j : Nat} (h : ∀ d', Rot d1 (m - i) m (m + j) d' → Rot d a m b d') (hj : 0 < j) (hij : j < i) (hi : i ≤ m)
  (h1 : Swapped d1 (m - i) m j d2) (h2 : Rot d2 (m - (i - j)) m (m + j) d') : Rot d a m b d' := h _ fun t => by
 rw [h2 t, h1 (m + (t - (m - (i - j)))), h1 (m - (i - j) + (t - (m - (i - j) + (m + j - m)))), h1 t]
 repeat' split
 all_goals first | omega | exact eqg (by omega)
theorem rot_lt {d d1 d2 d' : Array α} {a m b i j : Nat} (h : ∀ d', Rot d1 (m - i) m (m + j) d' → Rot d a m b d') (hj : 0 < i) (hij : i < j) (hi : i ≤ m)
  (h1 : Swapped d1 (m - i) (m + j - i) i d2) (h2 : Rot d2 (m - i) m (m + (j - i)) d') : Rot d a m b d' := h _ fun t => by
 rw [h2 t, h1 (m + (t - (m - i))), h1 (m - i + (t - (m - i + (m + (j - i) - m)))), h1 t]
 repeat' split
 all_goals first | omega | exact eqg (by omega)
theorem rot_eq {d d1 d2 : Array α} {a m b i : Nat} (h : ∀ d', Rot d1 (m - i) m (m + i) d' → Rot d a m b d') (hi : i ≤ m)
  (h1 : Swapped d1 (m - i) m i d2) : Rot d a m b d2 := h _ fun t => by
 rw [h1 t]
 repeat' split
 all_goals first | omega | exact eqg (by omega)
theorem rot_up {d dk : Array α} {a k : Nat} (h : Rot d a (a + 1) (k + 1) dk) (hk : a ≤ k) (hs : dk.size = d.size) (hb : k + 1 < d.size) : Rot d a (a + 1) (k + 2) (swp dk k (k + 1)) := fun t => by
 rw [swp_get dk (by omega) (by omega) t, h t, h k, h (k + 1)]
 repeat' split
 all_goals first | omega | exact eqg (by omega)
theorem rot_down {d dk : Array α} {m k : Nat} (h : Rot d (k + 1) m (m + 1) dk) (hk : k < m) (hs : dk.size = d.size) (hb : m < d.size) : Rot d k m (m + 1) (swp dk (k + 1) k) := fun t => by
 rw [swp_get dk (by omega) (by omega) t, h t, h k, h (k + 1)]
 repeat' split
 all_goals first | omega | exact eqg (by omega)
theorem sorted_le (hS : SWO lt) {a b : Nat} {d : Array α} (h : SortedIn lt a b d) {i j : Nat} (h1 : a ≤ i) (h2 : i ≤ j) (h3 : j < b) : lt d[j]! d[i]! = false := by
 rcases Nat.lt_or_ge i j with h4 | h4
 · exact h i j h1 h4 h3
 · obtain rfl : i = j := by omega
   exact hS.irrefl _
theorem sorted_congr {a b : Nat} {d d' : Array α} (hs : SortedIn lt a b d) (h : ∀ i, a ≤ i → i < b → d'[i]! = d[i]!) : SortedIn lt a b d' := fun i j hi hij hj => by
 rw [h i hi (by omega), h j (by omega) hj]; exact hs i j hi hij hj
theorem sorted_shift {a b x y : Nat} {d d' : Array α} (hs : SortedIn lt a b d) (hxy : y - x ≤ b - a) (h : ∀ i, x ≤ i → i < y → d'[i]! = d[a + (i - x)]!) : SortedIn lt x y d' := fun i j hi hij hj => by
 rw [h i hi (by omega), h j (by omega) hj]; exact hs _ _ (by omega) (by omega) (by omega)
theorem sorted_sub {a b x y : Nat} {d : Array α} (hs : SortedIn lt a b d) (h1 : a ≤ x) (h2 : y ≤ b) : SortedIn lt x y d := fun i j hi hij hj => hs i j (by omega) hij (by omega)
theorem merge_ready (hS : SWO lt) {a s m e b mid : Nat} {d d1 : Array α} (hL : SortedIn lt a m d) (hR : SortedIn lt m b d) (h1 : a ≤ s) (h2 : s ≤ m) (h3 : m ≤ e) (h4 : e ≤ b) (he : s + e = mid + m)
  (c1 : a < s → e < b → lt d[e]! d[s - 1]! = false) (c2 : s < m → m < e → lt d[e - 1]! d[s]! = true) (hr : Rot d s m e d1) :
  SortedIn lt a s d1 ∧ SortedIn lt s mid d1 ∧ SortedIn lt mid e d1 ∧ SortedIn lt e b d1 ∧ ∀ i j, a ≤ i → i < mid → mid ≤ j → j < b → lt d1[j]! d1[i]! = false := by
 have g1 : ∀ i, i < s → d1[i]! = d[i]! := fun i hi => by rw [hr i, if_neg (by omega), if_neg (by omega)]
 have g2 : ∀ i, s ≤ i → i < mid → d1[i]! = d[m + (i - s)]! := fun i hi hj => by rw [hr i, if_pos (by omega)]
 have g3 : ∀ i, mid ≤ i → i < e → d1[i]! = d[s + (i - mid)]! := fun i hi hj => by rw [hr i, if_neg (by omega), if_pos (by omega)]; exact eqg (by omega)
 have g4 : ∀ i, e ≤ i → d1[i]! = d[i]! := fun i hi => by rw [hr i, if_neg (by omega), if_neg (by omega)]
 refine ⟨sorted_congr (sorted_sub hL (Nat.le_refl _) h2) fun i _ hi => g1 i hi, sorted_shift (sorted_sub hR (Nat.le_refl _) h4) (by omega) g2, sorted_shift (sorted_sub hL h1 (Nat.le_refl _)) (by omega) g3, sorted_congr (sorted_sub hR h3 (Nat.le_refl _)) fun i hi _ => g4 i hi, ?_⟩; intro i j hi1 hi2 hj1 hj2
 rcases Nat.lt_or_ge i s with hi | hi
 · rw [g1 i hi]
   rcases Nat.lt_or_ge j e with hj | hj
   · rw [g3 j hj1 hj]
     exact sorted_le hS hL hi1 (by omega) (by omega)
   · rw [g4 j hj]
     exact hS.ntrans _ _ _ (sorted_le hS hR h3 hj hj2) (hS.ntrans _ _ _ (c1 (by omega) (by omega)) (sorted_le hS hL hi1 (by omega) (by omega)))
 · rw [g2 i hi hi2]
   rcases Nat.lt_or_ge j e with hj | hj
   · rw [g3 j hj1 hj]
     exact hS.ntrans _ _ _ (sorted_le hS hL h1 (by omega) (by omega)) (hS.ntrans _ _ _ (hS.asymmA (c2 (by omega) (by omega))) (sorted_le hS hR (by omega) (by omega) (by omega)))
   · rw [g4 j hj]
     exact sorted_le hS hR (by omega) (by omega) hj2
theorem merge_done {a b mid : Nat} {d1 d2 d3 : Array α} (h0 : a ≤ mid) (h1 : mid ≤ b) (hb : b ≤ d1.size) (hc : ∀ i j, a ≤ i → i < mid → mid ≤ j → j < b → lt d1[j]! d1[i]! = false)
  (p2 : PermIn a mid d1 d2) (s2 : SortedIn lt a mid d2) (p3 : PermIn mid b d2 d3) (s3 : SortedIn lt mid b d3) : PermIn a b d1 d3 ∧ SortedIn lt a b d3 := by
 have e2 : ∀ i j, a ≤ i → i < mid → mid ≤ j → j < b → lt d2[j]! d2[i]! = false := fun i j hi1 hi2 hj1 hj2 => by
  rw [p2.2.1 j (Or.inr hj1)]; exact permIn_all d1 d2 a mid (fun x => lt d1[j]! x = false) (by omega) p2 (fun i' h1 h2 => hc i' j h1 h2 hj1 hj2) i hi1 hi2
 have e3 : ∀ i j, a ≤ i → i < mid → mid ≤ j → j < b → lt d3[j]! d3[i]! = false := fun i j hi1 hi2 hj1 hj2 => by
  rw [p3.2.1 i (Or.inl hi2)]; exact permIn_all d2 d3 mid b (fun x => lt x d2[i]! = false) (by rw [p2.1]; omega) p3 (fun j' h1 h2 => e2 i j' hi1 hi2 h1 h2) j hj1 hj2
 refine ⟨permIn_trans _ _ _ _ _ (permIn_mono d1 d2 a mid a b (Nat.le_refl _) h1 hb p2) (permIn_mono d2 d3 mid b a b h0 (Nat.le_refl _) (by rw [p2.1]; exact hb) p3), fun i j hi hij hj => ?_⟩
 rcases Nat.lt_or_ge j mid with h | h
 · rw [p3.2.1 j (Or.inl h), p3.2.1 i (Or.inl (by omega))]
   exact s2 i j hi hij h
 · rcases Nat.lt_or_ge i mid with h' | h'
   · exact e3 i j hi h' h hj
   · exact s3 i j h' hij hj
theorem one_left (hS : SWO lt) {a i b : Nat} {d d1 : Array α} (hR : SortedIn lt (a + 1) b d) (h1 : a + 1 ≤ i) (h2 : i ≤ b)
  (c1 : a + 1 < i → lt d[i - 1]! d[a]! = true) (c2 : i < b → lt d[i]! d[a]! = false) (hr : Rot d a (a + 1) i d1) : SortedIn lt a b d1 := by
 have g1 : ∀ t, a ≤ t → t < i - 1 → d1[t]! = d[t + 1]! := fun t hi hj => by rw [hr t, if_pos (by omega)]; exact eqg (by omega)
 have g2 : d1[i - 1]! = d[a]! := by rw [hr (i - 1), if_neg (by omega), if_pos (by omega)]; exact eqg (by omega)
 have g3 : ∀ t, i ≤ t → d1[t]! = d[t]! := fun t hi => by rw [hr t, if_neg (by omega), if_neg (by omega)]
 intro p q hp hpq hq
 rcases Nat.lt_or_ge p (i - 1) with h | h
 · rw [g1 p hp h]
   rcases Nat.lt_or_ge q (i - 1) with k | k
   · rw [g1 q (by omega) k]
     exact hR _ _ (by omega) (by omega) (by omega)
   · rcases Nat.eq_or_lt_of_le k with k | k
     · rw [← k, g2]
       exact hS.ntrans _ _ _ (hS.asymmA (c1 (by omega))) (sorted_le hS hR (by omega) (by omega) (by omega))
     · rw [g3 q (by omega)]
       exact hR _ _ (by omega) (by omega) hq
 · rcases Nat.eq_or_lt_of_le h with h | h
   · rw [← h, g2, g3 q (by omega)]
     exact hS.ntrans _ _ _ (sorted_le hS hR (by omega) (show i ≤ q by omega) hq) (c2 (by omega))
   · rw [g3 p (by omega), g3 q (by omega)]
     exact hR _ _ (by omega) hpq hq
theorem one_right (hS : SWO lt) {a i m : Nat} {d d1 : Array α} (hL : SortedIn lt a m d) (h1 : a ≤ i) (h2 : i ≤ m)
  (c1 : a < i → lt d[m]! d[i - 1]! = false) (c2 : i < m → lt d[m]! d[i]! = true) (hr : Rot d i m (m + 1) d1) : SortedIn lt a (m + 1) d1 := by
 have g1 : ∀ t, t < i → d1[t]! = d[t]! := fun t hi => by rw [hr t, if_neg (by omega), if_neg (by omega)]
 have g2 : d1[i]! = d[m]! := by rw [hr i, if_pos (by omega)]; exact eqg (by omega)
 have g3 : ∀ t, i < t → t < m + 1 → d1[t]! = d[t - 1]! := fun t hi hj => by rw [hr t, if_neg (by omega), if_pos (by omega)]; exact eqg (by omega)
 intro p q hp hpq hq
 rcases Nat.lt_trichotomy p i with h | h | h
 · rw [g1 p h]
   rcases Nat.lt_trichotomy q i with k | k | k
   · rw [g1 q k]
     exact hL _ _ hp hpq (by omega)
   · subst k
     rw [g2]; exact hS.ntrans _ _ _ (c1 (by omega)) (sorted_le hS hL hp (by omega) (by omega))
   · rw [g3 q k hq]
     exact hL _ _ hp (by omega) (by omega)
 · subst h
   rw [g2, g3 q hpq hq]; exact hS.ntrans _ _ _ (sorted_le hS hL h1 (show p ≤ q - 1 by omega) (by omega)) (hS.asymmA (c2 (by omega)))
 · rw [g3 p h (by omega), g3 q (by omega) hq]
   exact hL _ _ (by omega) (by omega) (by omega)
end Go.Tw.Stab
namespace Go.Proofs.YtifcelebfagjbaaGreatDoor
open Go.RowKit Go.Lib Go.Sort Go.Tw.Stab
structure StabL (P : Program) (k : Nat) : Prop where
 mixed : P.follows .mixedOrders = true
 fSR : P.funcs[168]? = some Tryz.f168
 fRo : P.funcs[157]? = some Tryz.f157
 fSM : P.funcs[142]? = some Tryz.f142
 fSt : P.funcs[117]? = some Tryz.f117
 fSS : P.funcs[92]? = some Tryz.f92
 eSR : ∀ args w, (callFunc 168 args).run P w = .ok (.enter 168 args) w
 eRo : ∀ args w, (callFunc 157 args).run P w = .ok (.enter 157 args) w
 eSM : ∀ args w, (callFunc 142 args).run P w = .ok (.enter 142 args) w
 eSt : ∀ args w, (callFunc 117 args).run P w = .ok (.enter 117 args) w
 eIn : ∀ args w, (callFunc 141 args).run P w = .ok (.enter 141 args) w
 ti : P.underlying 3 = some (TypeDesc.int IntKind.i64)
 ai : ∀ w, (isAgg 3).run P w = .ok false w
 zi : ∀ w, (Go.sizeOf 3).run P w = .ok 1 w
 vi : ∀ w, (zeroValue 3).run P w = .ok (Value.int IntKind.i64 0) w
 tu : P.underlying 170 = some (TypeDesc.int IntKind.u64)
 au : ∀ w, (isAgg 170).run P w = .ok false w
 zu : ∀ w, (Go.sizeOf 170).run P w = .ok 1 w
 tb : P.underlying 4 = some (TypeDesc.bool)
 ab : ∀ w, (isAgg 4).run P w = .ok false w
 zb : ∀ w, (Go.sizeOf 4).run P w = .ok 1 w
 vb : ∀ w, (zeroValue 4).run P w = .ok (Value.bool false) w
 ts : P.underlying 52 = some (TypeDesc.slice 49)
 asl : ∀ w, (isAgg 52).run P w = .ok false w
 zs : ∀ w, (Go.sizeOf 52).run P w = .ok 1 w
 vs : ∀ w, (zeroValue 52).run P w = .ok (Value.slice none 0 0) w
 af : ∀ w, (isAgg 167).run P w = .ok false w
 zf : ∀ w, (Go.sizeOf 167).run P w = .ok 1 w
 aE : ∀ w, (isAgg 49).run P w = .ok true w
 zE : ∀ w, (Go.sizeOf 49).run P w = .ok k w
section
variable {P : Program} {α : Type} [Inhabited α]
set_option maxHeartbeats 4000000 in
set_option maxRecDepth 1000000 in
theorem swapRange_any {k : Nat} (L : StabL P k) (enc : α → List Value) (g : Nat) (cb : Array Value) (blk off cap a b n : Nat) (d0 d : Array α) (w0 w : World)
  (R : RowK enc k w0 blk off d0) (hs : d0.size = d.size) (S : SWK enc k w0 blk off d w) (hab : a + n ≤ b) (hb : b + n ≤ d.size) (hsz : d.size < 4611686018427387904) :
  Calls P 168 #[.slice (some ⟨blk, off, none⟩) d.size cap, .int .i64 a, .int .i64 b, .int .i64 n, .func (.func g) #[] cb] w fun e w' =>
   e = .returned (.tuple #[]) ∧ ∃ d', PermIn a (b + n) d d' ∧ Swapped d a b n d' ∧ SWK enc k w0 blk off d' w' := by
 have mixed := L.mixed; have ti := L.ti; have ai := L.ai; have zi := L.zi; have vi := L.vi; have tu := L.tu; have au := L.au; have zu := L.zu; have tb := L.tb; have ab := L.ab; have zb := L.zb; have vb := L.vb; have ts := L.ts; have asl := L.asl; have zs := L.zs; have vs := L.vs; have af := L.af; have zf := L.zf; have aE := L.aE; have zE := L.zE; have FG := L.fSR; have S0 : Aside (SWK enc k w0 blk off d w) := S; clear S
 go_enter FG, Tryz.ntmps168
 go_wp2
 go_loopg [10] n (fun gx si wr => ∃ (i : Nat) (dk : Array α), si = .int .i64 i ∧ i + gx = n ∧ Aside (SWK enc k w0 blk off dk wr) ∧ Aside (PermIn a (b + n) d dk ∧ Swapped d a b i dk) ∧ dk.size = d.size)
 case atStart => exact ⟨0, d, rfl, by omega, S0, ⟨permIn_refl _ _ _, swapped_zero _ _ _⟩, rfl⟩
 case round =>
  clear S0; obtain ⟨i, dk, rfl, hi, S1, HP, hds⟩ := hrel
  by_cases hlt : i < n
  · have hlt' : (i : Int) < (n : Int) := by omega
    go_wp2_with fail
    have ea : ((a : Int) + (i : Int)).toNat = a + i := by omega
    have pa : (0 : Int) ≤ (a : Int) + (i : Int) := by omega
    have ba : (a : Int) + (i : Int) < (d.size : Int) := by omega
    have ra : IntKind.i64.wrap ((a : Int) + (i : Int)) = (a : Int) + (i : Int) := by rw [IntKind.wrap_i64]; omega
    have ec : ((b : Int) + (i : Int)).toNat = b + i := by omega
    have pc : (0 : Int) ≤ (b : Int) + (i : Int) := by omega
    have bc : (b : Int) + (i : Int) < (d.size : Int) := by omega
    have rc : IntKind.i64.wrap ((b : Int) + (i : Int)) = (b : Int) + (i : Int) := by rw [IntKind.wrap_i64]; omega
    have S2 : Aside (SWK enc k w0 blk off (swp dk (a + i) (b + i)) ((wr.drew.setCells blk (off + (a + i) * k) (enc dk[b + i]!)).setCells blk (off + (b + i) * k) (enc dk[a + i]!))) := S1.out.swapped R (a + i) (b + i) (by omega) (by omega); have la := S1.out.ld1 R (by omega) P (a + i) (by omega); have lb := S1.out.ld1 R (by omega) P (b + i) (by omega); have sa := S1.out.st1 R (by omega) P (a + i) (by omega) dk[b + i]!; have sb := S1.out.st2 R (by omega) P (a + i) (b + i) (by omega) (by omega) dk[b + i]! dk[a + i]!; have na : (enc dk[a + i]!).length = k := R.hk _; have nb : (enc dk[b + i]!).length = k := R.hk _; generalize enc dk[a + i]! = cI at S2 la sb na; generalize enc dk[b + i]! = cJ at S2 lb sa sb nb; clear S1
    go_wp2_with fail
    go_big_region_o
    clear la lb sa sb ea pa ba ra ec pc bc rc na nb; generalize (wr.drew.setCells blk (off + (a + i) * k) cJ).setCells blk (off + (b + i) * k) cI = w2 at S2 ⊢; go_wp2
    go_roundg (n - (i + 1))
    case measure => omega
    case rel => exact ⟨i + 1, _, by go_num, by omega, S2, ⟨permIn_trans _ _ _ _ _ HP.out.1 (swp_permIn _ _ _ _ _ (by omega) (by omega) (by omega) (by omega) (by omega)), swapped_succ HP.out.2 hab hlt hb hds⟩, by rw [size_swp]; exact hds⟩
  · have hlt' : ¬ (i : Int) < (n : Int) := by omega
    obtain rfl : i = n := by omega
    go_wp2
    go_end0
    exact ⟨rfl, dk, HP.out.1, HP.out.2, S1.out⟩
end
end Go.Proofs.YtifcelebfagjbaaGreatDoor
namespace Go.Proofs.YtifcelebfagjbaaGreatDoor
open Go.RowKit Go.Lib Go.Sort Go.Tw.Stab
section
variable {P : Program} {α : Type} [Inhabited α]
set_option maxHeartbeats 4000000 in
set_option maxRecDepth 1000000 in
theorem rotate_any {k : Nat} (L : StabL P k) (enc : α → List Value) (g : Nat) (cb : Array Value) (blk off cap a m b : Nat) (d0 d : Array α) (w0 w : World)
  (R : RowK enc k w0 blk off d0) (hs : d0.size = d.size) (S : SWK enc k w0 blk off d w) (ham : a < m) (hmb : m < b) (hb : b ≤ d.size) (hsz : d.size < 4611686018427387904) :
  Calls P 157 #[.slice (some ⟨blk, off, none⟩) d.size cap, .int .i64 a, .int .i64 m, .int .i64 b, .func (.func g) #[] cb] w fun e w' =>
   e = .returned (.tuple #[]) ∧ ∃ d', PermIn a b d d' ∧ Rot d a m b d' ∧ SWK enc k w0 blk off d' w' := by
 have mixed := L.mixed; have ti := L.ti; have ai := L.ai; have zi := L.zi; have vi := L.vi; have tu := L.tu; have au := L.au; have zu := L.zu; have tb := L.tb; have ab := L.ab; have zb := L.zb; have vb := L.vb; have ts := L.ts; have asl := L.asl; have zs := L.zs; have vs := L.vs; have af := L.af; have zf := L.zf; have aE := L.aE; have zE := L.zE; have FG := L.fRo; have e88 := L.eSR; have S0 : Aside (SWK enc k w0 blk off d w) := S; clear S
 go_enter FG, Tryz.ntmps157
 go_wp2
 go_loopg [10, 11] (b - a) (fun gx si sj wr => ∃ (i j : Nat) (dk : Array α), si = .int .i64 i ∧ sj = .int .i64 j ∧ 0 < i ∧ 0 < j ∧ a + i ≤ m ∧ m + j ≤ b ∧ i + j ≤ gx ∧ Aside (SWK enc k w0 blk off dk wr) ∧ Aside (PermIn a b d dk ∧ ∀ d', Rot dk (m - i) m (m + j) d' → Rot d a m b d') ∧ dk.size = d.size)
 case atStart => exact ⟨m - a, b - m, d, by go_num, by go_num, by omega, by omega, by omega, by omega, by omega, S0, ⟨permIn_refl _ _ _, fun d' h => by rwa [show m - (m - a) = a by omega, show m + (b - m) = b by omega] at h⟩, rfl⟩
 case round =>
  clear S0; obtain ⟨i, j, dk, rfl, rfl, hi, hj, hia, hjb, hg, S1, HP, hds⟩ := hrel; have emi : ((m - i : Nat) : Int) = (m : Int) - (i : Int) := by omega
  by_cases hij : i = j
  · subst hij
    have hne : ((i : Int) != (i : Int)) = false := by simp
    have hcall := swapRange_any L enc g cb blk off cap (m - i) m i d0 dk w0 wr R (by omega) S1.out (by omega) (by omega) (by omega); rw [emi, hds] at hcall; clear S1
    go_wp2_with (go_at_fn 168; refine hcall.mono ?_; rintro e w1 ⟨rfl, d1, q1, q2, q3⟩)
    go_end0
    exact ⟨rfl, d1, permIn_trans _ _ _ _ _ HP.out.1 (permIn_mono _ _ _ _ _ _ (by omega) (by omega) (by omega) q1), rot_eq HP.out.2 (by omega) q2, q3⟩
  · have hne : ((i : Int) != (j : Int)) = true := by simp; omega
    by_cases hgt : j < i
    · have hgt' : (j : Int) < (i : Int) := by omega
      have hcall := swapRange_any L enc g cb blk off cap (m - i) m j d0 dk w0 wr R (by omega) S1.out (by omega) (by omega) (by omega); rw [emi, hds] at hcall; clear S1
      go_wp2_with (go_at_fn 168; refine hcall.mono ?_; rintro e w1 ⟨rfl, d1, q1, q2, q3⟩)
      go_roundg (i - j + j)
      case measure => omega
      case rel => exact ⟨i - j, j, d1, by go_num, rfl, by omega, hj, by omega, hjb, by omega, q3, ⟨permIn_trans _ _ _ _ _ HP.out.1 (permIn_mono _ _ _ _ _ _ (by omega) (by omega) (by omega) q1), fun d' h => rot_gt HP.out.2 hj hgt (by omega) q2 h⟩, by rw [q1.1]; exact hds⟩
    · have hgt' : ¬ (j : Int) < (i : Int) := by omega
      have emj : ((m + j - i : Nat) : Int) = (m : Int) + (j : Int) - (i : Int) := by omega
      have hcall := swapRange_any L enc g cb blk off cap (m - i) (m + j - i) i d0 dk w0 wr R (by omega) S1.out (by omega) (by omega) (by omega); rw [emi, emj, hds] at hcall; clear S1
      go_wp2_with (go_at_fn 168; refine hcall.mono ?_; rintro e w1 ⟨rfl, d1, q1, q2, q3⟩)
      go_roundg (i + (j - i))
      case measure => omega
      case rel => exact ⟨i, j - i, d1, rfl, by go_num, hi, by omega, hia, by omega, by omega, q3, ⟨permIn_trans _ _ _ _ _ HP.out.1 (permIn_mono _ _ _ _ _ _ (by omega) (by omega) (by omega) q1), fun d' h => rot_lt HP.out.2 hi (by omega) (by omega) q2 h⟩, by rw [q1.1]; exact hds⟩
end
end Go.Proofs.YtifcelebfagjbaaGreatDoor
namespace Go.Proofs.YtifcelebfagjbaaGreatDoor
open Go.RowKit Go.Lib Go.Sort Go.Tw.Stab
section
variable {P : Program} {α : Type} [Inhabited α]
set_option maxHeartbeats 4000000 in
set_option maxRecDepth 1000000 in
theorem symMerge_any {k : Nat} (L : StabL P k) (enc : α → List Value) (cf : α → α → Int) (hO : SWO (ltOf cf)) (g : Nat) (cb : Array Value) (blk off cap : Nat) (d0 : Array α) (w0 : World)
  (eg : ∀ args w, (callFunc g args).run P w = .ok (.enter g args) w) (hcmp : CmpLays P g cb enc k cf blk off d0.size w0) (R : RowK enc k w0 blk off d0) :
  ∀ (N a m b : Nat) (d : Array α) (w : World), b - a ≤ N → d0.size = d.size → SWK enc k w0 blk off d w → a < m → m < b → b ≤ d.size → d.size < 4611686018427387904 → SortedIn (ltOf cf) a m d → SortedIn (ltOf cf) m b d →
  Calls P 142 #[.slice (some ⟨blk, off, none⟩) d.size cap, .int .i64 a, .int .i64 m, .int .i64 b, .func (.func g) #[] cb] w fun e w' =>
   e = .returned (.tuple #[]) ∧ ∃ d', PermIn a b d d' ∧ SortedIn (ltOf cf) a b d' ∧ SWK enc k w0 blk off d' w' := by
 intro N
 induction N with
 | zero => intro a m b d w h; omega
 | succ N ih =>
 intro a m b d w hN hs S ham hmb hb hsz hL hR; have mixed := L.mixed; have ti := L.ti; have ai := L.ai; have zi := L.zi; have vi := L.vi; have tu := L.tu; have au := L.au; have zu := L.zu; have tb := L.tb; have ab := L.ab; have zb := L.zb; have vb := L.vb; have ts := L.ts; have asl := L.asl; have zs := L.zs; have vs := L.vs; have af := L.af; have zf := L.zf; have aE := L.aE; have zE := L.zE; have FG := L.fSM; have e86 := L.eRo; have e77 := L.eSM; have HC : Aside (CmpLays P g cb enc k cf blk off d0.size w0) := hcmp; have HL : Aside (SortedIn (ltOf cf) a m d ∧ SortedIn (ltOf cf) m b d) := ⟨hL, hR⟩; have IH : Aside _ := ih; have S0 : Aside (SWK enc k w0 blk off d w) := S; clear S hL hR hcmp ih; have HHL : Aside (SortedIn (ltOf cf) a m d ∧ SortedIn (ltOf cf) m b d) := HL
 by_cases h1 : m = a + 1
 · have hq : ((m : Int) - (a : Int) == 1) = true := by simp; omega
   have H1 := Lib.hid h1; clear h1
   go_enter FG, Tryz.ntmps142
   go_wp2
   go_loopg [10, 11] (b - m) (fun gx si sj wr => ∃ (i j : Nat), si = .int .i64 i ∧ sj = .int .i64 j ∧ m ≤ i ∧ i ≤ j ∧ j ≤ b ∧ j - i ≤ gx ∧ Aside (SWK enc k w0 blk off d wr) ∧ Aside ((m < i → ltOf cf d[i - 1]! d[a]! = true) ∧ (j < b → ltOf cf d[j]! d[a]! = false)))
   case atStart => exact ⟨m, b, rfl, rfl, by omega, by omega, by omega, by omega, S0, fun h => by omega, fun h => by omega⟩
   case round =>
    clear S0; obtain ⟨i, j, rfl, rfl, hi, hij, hj, hg, S1, HP⟩ := hrel
    by_cases hlt : i < j
    · have hlt' : (i : Int) < (j : Int) := by omega
      go_upto_region 5 with (fail)
      cases hT : ltOf cf d[(i + j) / 2]! d[a]! with
      | true =>
       have ea : (((i : Int) + (j : Int)) / 2).toNat = (i + j) / 2 := by omega
       have pa : (0 : Int) ≤ ((i : Int) + (j : Int)) / 2 := by omega
       have ba : ((i : Int) + (j : Int)) / 2 < (d.size : Int) := by omega
       have ra : IntKind.i64.wrap (((i : Int) + (j : Int)) / 2) = ((i : Int) + (j : Int)) / 2 := by rw [IntKind.wrap_i64]; omega
       have ec : ((a : Int)).toNat = a := by omega
       have pc : (0 : Int) ≤ (a : Int) := by omega
       have bc : (a : Int) < (d.size : Int) := by omega
       have rc : IntKind.i64.wrap ((a : Int)) = (a : Int) := by rw [IntKind.wrap_i64]; omega
       obtain ⟨xv, hxv⟩ : ∃ x, x = d[(i + j) / 2]! := ⟨_, rfl⟩; obtain ⟨yv, hyv⟩ : ∃ x, x = d[a]! := ⟨_, rfl⟩; have la := S1.out.ld R (by omega) P ((i + j) / 2) (by omega); have lb := S1.out.ld R (by omega) P (a) (by omega); rw [← hxv] at la; rw [← hyv] at lb; have hc := S1.out.cmp HC.out (by omega) xv yv; have hT' := hT; rw [← hxv, ← hyv] at hT'; have hd : decide (cf xv yv < 0) = true := hT'; have hv := of_decide_eq_true hd; clear hxv hyv hT'; have HT := Lib.hid hT; clear hT
       go_wp2_with fail
       go_quiet_grown (first | (go_at_fn g; refine Calls.grown_of (hc _ _)))
       have S2 : Aside (SWK enc k w0 blk off d (grow (wr.drewN nq) osq)) := S1.out.grown nq osq; have hT := HT.out; clear la lb hc S1 ea pa ba ra ec pc bc rc hv hd HT; generalize grow (wr.drewN nq) osq = w2 at S2 ⊢; clear nq osq
       go_wp2_with fail
       go_roundg (j - ((i + j) / 2 + 1))
       case measure => omega
       case rel => exact ⟨(i + j) / 2 + 1, j, by go_num, rfl, by omega, by omega, by omega, by omega, S2, ⟨fun _ => by rw [Nat.add_sub_cancel]; exact hT, HP.out.2⟩⟩
      | false =>
       have ea : (((i : Int) + (j : Int)) / 2).toNat = (i + j) / 2 := by omega
       have pa : (0 : Int) ≤ ((i : Int) + (j : Int)) / 2 := by omega
       have ba : ((i : Int) + (j : Int)) / 2 < (d.size : Int) := by omega
       have ra : IntKind.i64.wrap (((i : Int) + (j : Int)) / 2) = ((i : Int) + (j : Int)) / 2 := by rw [IntKind.wrap_i64]; omega
       have ec : ((a : Int)).toNat = a := by omega
       have pc : (0 : Int) ≤ (a : Int) := by omega
       have bc : (a : Int) < (d.size : Int) := by omega
       have rc : IntKind.i64.wrap ((a : Int)) = (a : Int) := by rw [IntKind.wrap_i64]; omega
       obtain ⟨xv, hxv⟩ : ∃ x, x = d[(i + j) / 2]! := ⟨_, rfl⟩; obtain ⟨yv, hyv⟩ : ∃ x, x = d[a]! := ⟨_, rfl⟩; have la := S1.out.ld R (by omega) P ((i + j) / 2) (by omega); have lb := S1.out.ld R (by omega) P (a) (by omega); rw [← hxv] at la; rw [← hyv] at lb; have hc := S1.out.cmp HC.out (by omega) xv yv; have hT' := hT; rw [← hxv, ← hyv] at hT'; have hd : decide (cf xv yv < 0) = false := hT'; have hv := of_decide_eq_false hd; clear hxv hyv hT'; have HT := Lib.hid hT; clear hT
       go_wp2_with fail
       go_quiet_grown (first | (go_at_fn g; refine Calls.grown_of (hc _ _)))
       have S2 : Aside (SWK enc k w0 blk off d (grow (wr.drewN nq) osq)) := S1.out.grown nq osq; have hT := HT.out; clear la lb hc S1 ea pa ba ra ec pc bc rc hv hd HT; generalize grow (wr.drewN nq) osq = w2 at S2 ⊢; clear nq osq
       go_wp2_with fail
       go_roundg ((i + j) / 2 - i)
       case measure => omega
       case rel => exact ⟨i, (i + j) / 2, rfl, by go_num, by omega, by omega, by omega, by omega, S2, ⟨HP.out.1, fun _ => hT⟩⟩
    · have hlt' : ¬ (i : Int) < (j : Int) := by omega
      obtain rfl : i = j := by omega
      clear hlt hij hg
      go_wp2_with fail
      go_loopg [13] (b - a) (fun gx sk wx => ∃ (kk : Nat) (dk : Array α), sk = .int .i64 kk ∧ a ≤ kk ∧ kk + 1 ≤ i ∧ i - kk ≤ gx ∧ dk.size = d.size ∧ Aside (SWK enc k w0 blk off dk wx) ∧ Aside (PermIn a b d dk ∧ Rot d a (a + 1) (kk + 1) dk))
      case atStart => exact ⟨a, d, rfl, by omega, by omega, by omega, rfl, S1, permIn_refl _ _ _, rot_self (by omega) (by omega) (.inr rfl)⟩
      case round =>
       clear S1; obtain ⟨kk, dk, rfl, hka, hki, hkg, hds, S1, HQ⟩ := hrel
       by_cases hlt : kk + 1 < i
       · have hlt' : (kk : Int) < (i : Int) - 1 := by omega
         go_upto_region 11 with (fail)
         have ea : ((kk : Int)).toNat = kk := by omega
         have pa : (0 : Int) ≤ (kk : Int) := by omega
         have ba : (kk : Int) < (d.size : Int) := by omega
         have ra : IntKind.i64.wrap ((kk : Int)) = (kk : Int) := by rw [IntKind.wrap_i64]; omega
         have ec : ((kk : Int) + 1).toNat = kk + 1 := by omega
         have pc : (0 : Int) ≤ (kk : Int) + 1 := by omega
         have bc : (kk : Int) + 1 < (d.size : Int) := by omega
         have rc : IntKind.i64.wrap ((kk : Int) + 1) = (kk : Int) + 1 := by rw [IntKind.wrap_i64]; omega
         have S2 : Aside (SWK enc k w0 blk off (swp dk (kk) (kk + 1)) ((wr.drew.setCells blk (off + (kk) * k) (enc dk[kk + 1]!)).setCells blk (off + (kk + 1) * k) (enc dk[kk]!))) := S1.out.swapped R (kk) (kk + 1) (by omega) (by omega); have la := S1.out.ld1 R (by omega) P (kk) (by omega); have lb := S1.out.ld1 R (by omega) P (kk + 1) (by omega); have sa := S1.out.st1 R (by omega) P (kk) (by omega) dk[kk + 1]!; have sb := S1.out.st2 R (by omega) P (kk) (kk + 1) (by omega) (by omega) dk[kk + 1]! dk[kk]!; have na : (enc dk[kk]!).length = k := R.hk _; have nb : (enc dk[kk + 1]!).length = k := R.hk _; generalize enc dk[kk]! = cI at S2 la sb na; generalize enc dk[kk + 1]! = cJ at S2 lb sa sb nb; clear S1
         go_wp2_with fail
         go_big_region_o
         clear la lb sa sb ea pa ba ra ec pc bc rc na nb; generalize (wr.drew.setCells blk (off + (kk) * k) cJ).setCells blk (off + (kk + 1) * k) cI = w2 at S2 ⊢; go_wp2
         go_roundg (i - (kk + 1))
         case measure => omega
         case rel => exact ⟨kk + 1, _, by go_num, by omega, by omega, by omega, by rw [size_swp]; exact hds, S2, permIn_trans _ _ _ _ _ HQ.out.1 (swp_permIn _ _ _ _ _ (by omega) (by omega) (by omega) (by omega) (by omega)), rot_up HQ.out.2 hka hds (by omega)⟩
       · have hlt' : ¬ (kk : Int) < (i : Int) - 1 := by omega
         obtain rfl : i = kk + 1 := by omega
         go_wp2_with fail
         (try simp only [Exit.inBlock, Exit.then])
         refine bodyPost_ret (results_none rfl _ _ _) rfl ?_; refine ⟨rfl, dk, HQ.out.1, ?_, S1.out⟩; have h1 := H1.out; subst h1; exact one_left hO HHL.out.2 hi hj HP.out.1 HP.out.2 HQ.out.2
 · have hq : ((m : Int) - (a : Int) == 1) = false := by simp; omega
   by_cases h2 : b = m + 1
   · have hq2 : ((b : Int) - (m : Int) == 1) = true := by simp; omega
     have H2 := Lib.hid h2; clear h1 h2
     go_enter FG, Tryz.ntmps142
     go_wp2
     go_loopg [14, 15] (m - a) (fun gx si sj wr => ∃ (i j : Nat), si = .int .i64 i ∧ sj = .int .i64 j ∧ a ≤ i ∧ i ≤ j ∧ j ≤ m ∧ j - i ≤ gx ∧ Aside (SWK enc k w0 blk off d wr) ∧ Aside ((a < i → ltOf cf d[m]! d[i - 1]! = false) ∧ (j < m → ltOf cf d[m]! d[j]! = true)))
     case atStart => exact ⟨a, m, rfl, rfl, by omega, by omega, by omega, by omega, S0, fun h => by omega, fun h => by omega⟩
     case round =>
      clear S0; obtain ⟨i, j, rfl, rfl, hi, hij, hj, hg, S1, HP⟩ := hrel
      by_cases hlt : i < j
      · have hlt' : (i : Int) < (j : Int) := by omega
        go_upto_region 17 with (fail)
        cases hT : ltOf cf d[m]! d[(i + j) / 2]! with
        | true =>
         have ea : ((m : Int)).toNat = m := by omega
         have pa : (0 : Int) ≤ (m : Int) := by omega
         have ba : (m : Int) < (d.size : Int) := by omega
         have ra : IntKind.i64.wrap ((m : Int)) = (m : Int) := by rw [IntKind.wrap_i64]; omega
         have ec : (((i : Int) + (j : Int)) / 2).toNat = (i + j) / 2 := by omega
         have pc : (0 : Int) ≤ ((i : Int) + (j : Int)) / 2 := by omega
         have bc : ((i : Int) + (j : Int)) / 2 < (d.size : Int) := by omega
         have rc : IntKind.i64.wrap (((i : Int) + (j : Int)) / 2) = ((i : Int) + (j : Int)) / 2 := by rw [IntKind.wrap_i64]; omega
         obtain ⟨xv, hxv⟩ : ∃ x, x = d[m]! := ⟨_, rfl⟩; obtain ⟨yv, hyv⟩ : ∃ x, x = d[(i + j) / 2]! := ⟨_, rfl⟩; have la := S1.out.ld R (by omega) P (m) (by omega); have lb := S1.out.ld R (by omega) P ((i + j) / 2) (by omega); rw [← hxv] at la; rw [← hyv] at lb; have hc := S1.out.cmp HC.out (by omega) xv yv; have hT' := hT; rw [← hxv, ← hyv] at hT'; have hd : decide (cf xv yv < 0) = true := hT'; have hv := of_decide_eq_true hd; clear hxv hyv hT'; have HT := Lib.hid hT; clear hT
         go_wp2_with fail
         go_quiet_grown (first | (go_at_fn g; refine Calls.grown_of (hc _ _)))
         have S2 : Aside (SWK enc k w0 blk off d (grow (wr.drewN nq) osq)) := S1.out.grown nq osq; have hT := HT.out; clear la lb hc S1 ea pa ba ra ec pc bc rc hv hd HT; generalize grow (wr.drewN nq) osq = w2 at S2 ⊢; clear nq osq
         go_wp2_with fail
         go_roundg ((i + j) / 2 - i)
         case measure => omega
         case rel => exact ⟨i, (i + j) / 2, rfl, by go_num, by omega, by omega, by omega, by omega, S2, ⟨HP.out.1, fun _ => hT⟩⟩
        | false =>
         have ea : ((m : Int)).toNat = m := by omega
         have pa : (0 : Int) ≤ (m : Int) := by omega
         have ba : (m : Int) < (d.size : Int) := by omega
         have ra : IntKind.i64.wrap ((m : Int)) = (m : Int) := by rw [IntKind.wrap_i64]; omega
         have ec : (((i : Int) + (j : Int)) / 2).toNat = (i + j) / 2 := by omega
         have pc : (0 : Int) ≤ ((i : Int) + (j : Int)) / 2 := by omega
         have bc : ((i : Int) + (j : Int)) / 2 < (d.size : Int) := by omega
         have rc : IntKind.i64.wrap (((i : Int) + (j : Int)) / 2) = ((i : Int) + (j : Int)) / 2 := by rw [IntKind.wrap_i64]; omega
         obtain ⟨xv, hxv⟩ : ∃ x, x = d[m]! := ⟨_, rfl⟩; obtain ⟨yv, hyv⟩ : ∃ x, x = d[(i + j) / 2]! := ⟨_, rfl⟩; have la := S1.out.ld R (by omega) P (m) (by omega); have lb := S1.out.ld R (by omega) P ((i + j) / 2) (by omega); rw [← hxv] at la; rw [← hyv] at lb; have hc := S1.out.cmp HC.out (by omega) xv yv; have hT' := hT; rw [← hxv, ← hyv] at hT'; have hd : decide (cf xv yv < 0) = false := hT'; have hv := of_decide_eq_false hd; clear hxv hyv hT'; have HT := Lib.hid hT; clear hT
         go_wp2_with fail
         go_quiet_grown (first | (go_at_fn g; refine Calls.grown_of (hc _ _)))
         have S2 : Aside (SWK enc k w0 blk off d (grow (wr.drewN nq) osq)) := S1.out.grown nq osq; have hT := HT.out; clear la lb hc S1 ea pa ba ra ec pc bc rc hv hd HT; generalize grow (wr.drewN nq) osq = w2 at S2 ⊢; clear nq osq
         go_wp2_with fail
         go_roundg (j - ((i + j) / 2 + 1))
         case measure => omega
         case rel => exact ⟨(i + j) / 2 + 1, j, by go_num, rfl, by omega, by omega, by omega, by omega, S2, ⟨fun _ => by rw [Nat.add_sub_cancel]; exact hT, HP.out.2⟩⟩
      · have hlt' : ¬ (i : Int) < (j : Int) := by omega
        obtain rfl : i = j := by omega
        clear hlt hij hg
        go_wp2_with fail
        go_loopg [17] (m - a) (fun gx sk wx => ∃ (kk : Nat) (dk : Array α), sk = .int .i64 kk ∧ i ≤ kk ∧ kk ≤ m ∧ kk - i ≤ gx ∧ dk.size = d.size ∧ Aside (SWK enc k w0 blk off dk wx) ∧ Aside (PermIn a b d dk ∧ Rot d kk m (m + 1) dk))
        case atStart => exact ⟨m, d, rfl, by omega, by omega, by omega, rfl, S1, permIn_refl _ _ _, rot_self (by omega) (by omega) (.inl rfl)⟩
        case round =>
         clear S1; obtain ⟨kk, dk, rfl, hki, hkm, hkg, hds, S1, HQ⟩ := hrel
         by_cases hlt : i < kk
         · have hlt' : (i : Int) < (kk : Int) := by omega
           obtain ⟨kp, rfl⟩ : ∃ kp, kk = kp + 1 := ⟨kk - 1, by omega⟩; have hlt2 : (i : Int) < (kp : Int) + 1 := by omega
           go_upto_region 23 with (fail)
           have ea : ((kp : Int) + 1).toNat = kp + 1 := by omega
           have pa : (0 : Int) ≤ (kp : Int) + 1 := by omega
           have ba : (kp : Int) + 1 < (d.size : Int) := by omega
           have ra : IntKind.i64.wrap ((kp : Int) + 1) = (kp : Int) + 1 := by rw [IntKind.wrap_i64]; omega
           have ec : ((kp : Int)).toNat = kp := by omega
           have pc : (0 : Int) ≤ (kp : Int) := by omega
           have bc : (kp : Int) < (d.size : Int) := by omega
           have rc : IntKind.i64.wrap ((kp : Int)) = (kp : Int) := by rw [IntKind.wrap_i64]; omega
           have S2 : Aside (SWK enc k w0 blk off (swp dk (kp + 1) (kp)) ((wr.drew.setCells blk (off + (kp + 1) * k) (enc dk[kp]!)).setCells blk (off + (kp) * k) (enc dk[kp + 1]!))) := S1.out.swapped R (kp + 1) (kp) (by omega) (by omega); have la := S1.out.ld1 R (by omega) P (kp + 1) (by omega); have lb := S1.out.ld1 R (by omega) P (kp) (by omega); have sa := S1.out.st1 R (by omega) P (kp + 1) (by omega) dk[kp]!; have sb := S1.out.st2 R (by omega) P (kp + 1) (kp) (by omega) (by omega) dk[kp]! dk[kp + 1]!; have na : (enc dk[kp + 1]!).length = k := R.hk _; have nb : (enc dk[kp]!).length = k := R.hk _; generalize enc dk[kp + 1]! = cI at S2 la sb na; generalize enc dk[kp]! = cJ at S2 lb sa sb nb; clear S1
           go_wp2_with fail
           go_big_region_o
           clear la lb sa sb ea pa ba ra ec pc bc rc na nb; generalize (wr.drew.setCells blk (off + (kp + 1) * k) cJ).setCells blk (off + (kp) * k) cI = w2 at S2 ⊢; go_wp2
           go_roundg (kp - i)
           case measure => omega
           case rel => exact ⟨kp, _, by go_num, by omega, by omega, by omega, by rw [size_swp]; exact hds, S2, permIn_trans _ _ _ _ _ HQ.out.1 (swp_permIn _ _ _ _ _ (by omega) (by omega) (by omega) (by omega) (by omega)), rot_down HQ.out.2 (by omega) hds (by omega)⟩
         · have hlt' : ¬ (i : Int) < (kk : Int) := by omega
           obtain rfl : i = kk := by omega
           go_wp2_with fail
           (try simp only [Exit.inBlock, Exit.then])
           refine bodyPost_ret (results_none rfl _ _ _) rfl ?_; refine ⟨rfl, dk, HQ.out.1, ?_, S1.out⟩; have h2 := H2.out; subst h2; exact one_right hO HHL.out.1 hi hj HP.out.1 HP.out.2 HQ.out.2
   · have hq2 : ((b : Int) - (m : Int) == 1) = false := by simp; omega
     obtain ⟨mid, hmid, hm1, hm2⟩ : ∃ mid : Nat, ((a : Int) + (b : Int)) / 2 = (mid : Int) ∧ 2 * mid ≤ a + b ∧ a + b ≤ 2 * mid + 1 := ⟨(a + b) / 2, by omega, by omega, by omega⟩
     go_enter FG, Tryz.ntmps142
     go_upto_if 140 with (fail)
     clear hmid h1 h2 hq hq2
     go_cut [20, 21] (fun s0 r0 wx => ∃ (s r : Nat), s0 = .int .i64 s ∧ r0 = .int .i64 r ∧ a ≤ s ∧ s ≤ r ∧ r ≤ m ∧ r ≤ mid ∧ mid + m ≤ b + s ∧ r - s ≤ b - a ∧ Aside (SWK enc k w0 blk off d wx) ∧ Aside ((a < s → mid + m - s < b → ltOf cf d[mid + m - s]! d[s - 1]! = false) ∧ (r < m → m < mid + m - r → ltOf cf d[mid + m - r - 1]! d[r]! = true)))
     case first =>
      by_cases hmm : mid < m
      · have hmm' : (mid : Int) < (m : Int) := by omega
        go_wp2_with fail
        go_meet; exact ⟨mid + m - b, mid, by go_num, rfl, by omega, by omega, by omega, by omega, by omega, by omega, S0, fun _ h => by omega, fun _ h => by omega⟩
      · have hmm' : ¬ (mid : Int) < (m : Int) := by omega
        go_wp2_with fail
        go_meet; exact ⟨a, m, rfl, rfl, by omega, by omega, by omega, by omega, by omega, by omega, S0, fun h => by omega, fun h => by omega⟩
     case rest =>
     obtain ⟨sS, rS, rfl, rfl, z1, z2, z3, z4, z5, z6, z7, z8⟩ := hcut; clear S0; have S0 := z7
     go_wp2_with fail
     go_loopg [20, 21] (b - a) (fun gx ss sr wr => ∃ (s r : Nat), ss = .int .i64 s ∧ sr = .int .i64 r ∧ a ≤ s ∧ s ≤ r ∧ r ≤ m ∧ r ≤ mid ∧ mid + m ≤ b + s ∧ r - s ≤ gx ∧ Aside (SWK enc k w0 blk off d wr) ∧ Aside ((a < s → mid + m - s < b → ltOf cf d[mid + m - s]! d[s - 1]! = false) ∧ (r < m → m < mid + m - r → ltOf cf d[mid + m - r - 1]! d[r]! = true)))
     case atStart => exact ⟨sS, rS, rfl, rfl, z1, z2, z3, z4, z5, z6, z7, z8⟩
     case round =>
      clear S0 z1 z2 z3 z4 z5 z6 z7 z8; obtain ⟨s, r, rfl, rfl, hi, hij, hj, hj2, hbs, hg, S1, HP⟩ := hrel
      by_cases hlt : s < r
      · have hlt' : (s : Int) < (r : Int) := by omega
        obtain ⟨c, hc0, hc1, hc2, hc3⟩ : ∃ c : Nat, ((s : Int) + (r : Int)) / 2 = (c : Int) ∧ s ≤ c ∧ c < r ∧ c = (s + r) / 2 := ⟨(s + r) / 2, by omega, by omega, by omega, rfl⟩; clear hc3; obtain ⟨q, hq0, hq1⟩ : ∃ q : Nat, (mid : Int) + (m : Int) - 1 - (c : Int) = (q : Int) ∧ q + c + 1 = mid + m := ⟨mid + m - 1 - c, by omega, by omega⟩
        go_upto_region 35 with (fail)
        cases hT : ltOf cf d[q]! d[c]! with
        | true =>
         have ea : ((q : Int)).toNat = q := by omega
         have pa : (0 : Int) ≤ (q : Int) := by omega
         have ba : (q : Int) < (d.size : Int) := by omega
         have ra : IntKind.i64.wrap ((q : Int)) = (q : Int) := by rw [IntKind.wrap_i64]; omega
         have ec : ((c : Int)).toNat = c := by omega
         have pc : (0 : Int) ≤ (c : Int) := by omega
         have bc : (c : Int) < (d.size : Int) := by omega
         have rc : IntKind.i64.wrap ((c : Int)) = (c : Int) := by rw [IntKind.wrap_i64]; omega
         obtain ⟨xv, hxv⟩ : ∃ x, x = d[q]! := ⟨_, rfl⟩; obtain ⟨yv, hyv⟩ : ∃ x, x = d[c]! := ⟨_, rfl⟩; have la := S1.out.ld R (by omega) P (q) (by omega); have lb := S1.out.ld R (by omega) P (c) (by omega); rw [← hxv] at la; rw [← hyv] at lb; have hc := S1.out.cmp HC.out (by omega) xv yv; have hT' := hT; rw [← hxv, ← hyv] at hT'; have hd : decide (cf xv yv < 0) = true := hT'; have hv := of_decide_eq_true hd; clear hxv hyv hT'; have HT := Lib.hid hT; clear hT
         go_wp2_with fail
         go_quiet_grown (first | (go_at_fn g; refine Calls.grown_of (hc _ _)))
         have S2 : Aside (SWK enc k w0 blk off d (grow (wr.drewN nq) osq)) := S1.out.grown nq osq; have hT := HT.out; clear la lb hc S1 ea pa ba ra ec pc bc rc hv hd HT; generalize grow (wr.drewN nq) osq = w2 at S2 ⊢; clear nq osq; clear hc0 hq0
         go_wp2_with fail
         go_roundg (c - s)
         case measure => omega
         case rel => exact ⟨s, c, rfl, rfl, by omega, by omega, by omega, by omega, by omega, by omega, S2, HP.out.1, fun _ _ => by rw [show mid + m - c - 1 = q by omega]; exact hT⟩
        | false =>
         have ea : ((q : Int)).toNat = q := by omega
         have pa : (0 : Int) ≤ (q : Int) := by omega
         have ba : (q : Int) < (d.size : Int) := by omega
         have ra : IntKind.i64.wrap ((q : Int)) = (q : Int) := by rw [IntKind.wrap_i64]; omega
         have ec : ((c : Int)).toNat = c := by omega
         have pc : (0 : Int) ≤ (c : Int) := by omega
         have bc : (c : Int) < (d.size : Int) := by omega
         have rc : IntKind.i64.wrap ((c : Int)) = (c : Int) := by rw [IntKind.wrap_i64]; omega
         obtain ⟨xv, hxv⟩ : ∃ x, x = d[q]! := ⟨_, rfl⟩; obtain ⟨yv, hyv⟩ : ∃ x, x = d[c]! := ⟨_, rfl⟩; have la := S1.out.ld R (by omega) P (q) (by omega); have lb := S1.out.ld R (by omega) P (c) (by omega); rw [← hxv] at la; rw [← hyv] at lb; have hc := S1.out.cmp HC.out (by omega) xv yv; have hT' := hT; rw [← hxv, ← hyv] at hT'; have hd : decide (cf xv yv < 0) = false := hT'; have hv := of_decide_eq_false hd; clear hxv hyv hT'; have HT := Lib.hid hT; clear hT
         go_wp2_with fail
         go_quiet_grown (first | (go_at_fn g; refine Calls.grown_of (hc _ _)))
         have S2 : Aside (SWK enc k w0 blk off d (grow (wr.drewN nq) osq)) := S1.out.grown nq osq; have hT := HT.out; clear la lb hc S1 ea pa ba ra ec pc bc rc hv hd HT; generalize grow (wr.drewN nq) osq = w2 at S2 ⊢; clear nq osq; clear hc0 hq0
         go_wp2_with fail
         go_roundg (r - (c + 1))
         case measure => omega
         case rel => exact ⟨c + 1, r, by go_num, rfl, by omega, by omega, by omega, by omega, by omega, by omega, S2, fun _ _ => by rw [Nat.add_sub_cancel, show mid + m - (c + 1) = q by omega]; exact hT, HP.out.2⟩
      · have hlt' : ¬ (s : Int) < (r : Int) := by omega
        obtain rfl : s = r := by omega
        obtain ⟨e, hE, he⟩ : ∃ e : Nat, (mid : Int) + (m : Int) - (s : Int) = (e : Int) ∧ s + e = mid + m := ⟨mid + m - s, by omega, by omega⟩; have HM : Aside (∀ d1, Rot d s m e d1 → SortedIn (ltOf cf) a s d1 ∧ SortedIn (ltOf cf) s mid d1 ∧ SortedIn (ltOf cf) mid e d1 ∧ SortedIn (ltOf cf) e b d1 ∧ ∀ i j, a ≤ i → i < mid → mid ≤ j → j < b → ltOf cf d1[j]! d1[i]! = false) := fun d1 h => merge_ready hO HHL.out.1 HHL.out.2 hi hj (by omega) (by omega) he (fun h1 h2 => by have := HP.out.1 h1 (by omega); rwa [show mid + m - s = e by omega] at this) (fun h1 h2 => by have := HP.out.2 h1 (by omega); rwa [show mid + m - s - 1 = e - 1 by omega] at this) h
        clear hlt hij hg HP
        by_cases g1 : s < m
        · by_cases g2 : m < e
          · have g1' : (s : Int) < (m : Int) := by omega
            have g2' : (m : Int) < (e : Int) := by omega
            have hcall := rotate_any L enc g cb blk off cap s m e d0 d w0 wr R (by omega) S1.out (by omega) (by omega) (by omega) (by omega); clear S1
            go_upto_region 41 with (go_at_fn 157; refine hcall.mono ?_; rintro e w1 ⟨rfl, d1, q1, hrot, S2⟩)
            have HP1 := permIn_mono _ _ _ _ a b (by omega) (by omega) (by omega) q1; clear q1 hcall; have HT := Lib.hid (HM.out d1 hrot); have hs1 : d1.size = d.size := HP1.1; have S3 := Lib.hid S2; clear hrot S2
            by_cases g3 : a < s
            · by_cases g4 : s < mid
              · try (exfalso; omega)
                all_goals
                 have g3' : (a : Int) < (s : Int) := by omega
                 have g4' : (s : Int) < (mid : Int) := by omega
                 have hcall := IH.out a s mid d1 _ (by omega) (by omega) S3.out g3 g4 (by omega) (by omega) HT.out.1 HT.out.2.1; rw [hs1] at hcall; have HS1 := Lib.hid hs1; clear S3 hs1
                 go_upto_region 43 with (go_at_fn 142; refine hcall.mono ?_; rintro e w1 ⟨rfl, d2, HP2, HQ2, S2⟩)
                 have S3 := Lib.hid S2; clear S2 hcall; have hs2 : d2.size = d.size := HP2.1.trans HS1.out; have HE2 := Lib.hid (show SortedIn (ltOf cf) mid e d2 ∧ SortedIn (ltOf cf) e b d2 from ⟨sorted_congr HT.out.2.2.1 fun i h1 _ => HP2.2.1 i (.inr h1), sorted_congr HT.out.2.2.2.1 fun i h1 _ => HP2.2.1 i (.inr (by omega))⟩)
                 have HFin := Lib.hid (show ∀ d3, PermIn mid b d2 d3 → SortedIn (ltOf cf) mid b d3 → PermIn a b d d3 ∧ SortedIn (ltOf cf) a b d3 from fun d3 h1 h2 => by
                  have hs1 := HS1.out; have := merge_done (by omega) (by omega) (by omega) HT.out.2.2.2.2 HP2 HQ2 h1 h2
                  exact ⟨permIn_trans _ _ _ _ _ HP1 this.1, this.2⟩)
                 have HS2 := Lib.hid hs2; clear HP2 HQ2 hs2
                 by_cases g5 : mid < e
                 · by_cases g6 : e < b
                   · try (exfalso; omega)
                     all_goals
                      have g5' : (mid : Int) < (e : Int) := by omega
                      have g6' : (e : Int) < (b : Int) := by omega
                      have hcall := IH.out mid e b d2 _ (by omega) (by rw [HS2.out]; omega) S3.out g5 g6 (by rw [HS2.out]; omega) (by rw [HS2.out]; omega) HE2.out.1 HE2.out.2; rw [HS2.out] at hcall; clear S3
                      go_wp2_with (go_at_fn 142; refine hcall.mono ?_; rintro e w1 ⟨rfl, d3, q1, q2, q3⟩)
                      go_end0
                      exact ⟨rfl, d3, (HFin.out d3 q1 q2).1, (HFin.out d3 q1 q2).2, q3⟩
                   · try (exfalso; omega)
                     all_goals
                      have g5' : (mid : Int) < (e : Int) := by omega
                      have g6' : ¬ (e : Int) < (b : Int) := by omega
                      have HF := Lib.hid (HFin.out d2 (permIn_refl _ _ _) (by rw [show b = e by omega]; exact HE2.out.1))
                      go_wp2_with fail
                      go_end0
                      exact ⟨rfl, d2, HF.out.1, HF.out.2, S3.out⟩
                 · try (exfalso; omega)
                   all_goals
                    have g5' : ¬ (mid : Int) < (e : Int) := by omega
                    have HF := Lib.hid (HFin.out d2 (permIn_refl _ _ _) (by rw [show mid = e by omega]; exact HE2.out.2))
                    go_wp2_with fail
                    go_end0
                    exact ⟨rfl, d2, HF.out.1, HF.out.2, S3.out⟩
              · try (exfalso; omega)
                all_goals
                 have g3' : (a : Int) < (s : Int) := by omega
                 have g4' : ¬ (s : Int) < (mid : Int) := by omega
                 have HP2 := permIn_refl d1 a mid; have HQ2 : SortedIn (ltOf cf) a mid d1 := by rw [show mid = s by omega]; exact HT.out.1
                 have HS1 := Lib.hid hs1; clear hs1; obtain ⟨d2, hd2⟩ : ∃ d2, d2 = d1 := ⟨_, rfl⟩; rw [show PermIn a mid d1 d1 = PermIn a mid d1 d2 by rw [hd2]] at HP2; rw [← hd2] at S3 HQ2; clear hd2
                 go_upto_region 43 with (fail)
                 have hs2 : d2.size = d.size := HP2.1.trans HS1.out; have HE2 := Lib.hid (show SortedIn (ltOf cf) mid e d2 ∧ SortedIn (ltOf cf) e b d2 from ⟨sorted_congr HT.out.2.2.1 fun i h1 _ => HP2.2.1 i (.inr h1), sorted_congr HT.out.2.2.2.1 fun i h1 _ => HP2.2.1 i (.inr (by omega))⟩)
                 have HFin := Lib.hid (show ∀ d3, PermIn mid b d2 d3 → SortedIn (ltOf cf) mid b d3 → PermIn a b d d3 ∧ SortedIn (ltOf cf) a b d3 from fun d3 h1 h2 => by
                  have hs1 := HS1.out; have := merge_done (by omega) (by omega) (by omega) HT.out.2.2.2.2 HP2 HQ2 h1 h2
                  exact ⟨permIn_trans _ _ _ _ _ HP1 this.1, this.2⟩)
                 have HS2 := Lib.hid hs2; clear HP2 HQ2 hs2
                 by_cases g5 : mid < e
                 · by_cases g6 : e < b
                   · try (exfalso; omega)
                     all_goals
                      have g5' : (mid : Int) < (e : Int) := by omega
                      have g6' : (e : Int) < (b : Int) := by omega
                      have hcall := IH.out mid e b d2 _ (by omega) (by rw [HS2.out]; omega) S3.out g5 g6 (by rw [HS2.out]; omega) (by rw [HS2.out]; omega) HE2.out.1 HE2.out.2; rw [HS2.out] at hcall; clear S3
                      go_wp2_with (go_at_fn 142; refine hcall.mono ?_; rintro e w1 ⟨rfl, d3, q1, q2, q3⟩)
                      go_end0
                      exact ⟨rfl, d3, (HFin.out d3 q1 q2).1, (HFin.out d3 q1 q2).2, q3⟩
                   · try (exfalso; omega)
                     all_goals
                      have g5' : (mid : Int) < (e : Int) := by omega
                      have g6' : ¬ (e : Int) < (b : Int) := by omega
                      have HF := Lib.hid (HFin.out d2 (permIn_refl _ _ _) (by rw [show b = e by omega]; exact HE2.out.1))
                      go_wp2_with fail
                      go_end0
                      exact ⟨rfl, d2, HF.out.1, HF.out.2, S3.out⟩
                 · try (exfalso; omega)
                   all_goals
                    have g5' : ¬ (mid : Int) < (e : Int) := by omega
                    have HF := Lib.hid (HFin.out d2 (permIn_refl _ _ _) (by rw [show mid = e by omega]; exact HE2.out.2))
                    go_wp2_with fail
                    go_end0
                    exact ⟨rfl, d2, HF.out.1, HF.out.2, S3.out⟩
            · try (exfalso; omega)
              all_goals
               have g3' : ¬ (a : Int) < (s : Int) := by omega
               have HP2 := permIn_refl d1 a mid; have HQ2 : SortedIn (ltOf cf) a mid d1 := by rw [show a = s by omega]; exact HT.out.2.1
               have HS1 := Lib.hid hs1; clear hs1; obtain ⟨d2, hd2⟩ : ∃ d2, d2 = d1 := ⟨_, rfl⟩; rw [show PermIn a mid d1 d1 = PermIn a mid d1 d2 by rw [hd2]] at HP2; rw [← hd2] at S3 HQ2; clear hd2
               go_upto_region 43 with (fail)
               have hs2 : d2.size = d.size := HP2.1.trans HS1.out; have HE2 := Lib.hid (show SortedIn (ltOf cf) mid e d2 ∧ SortedIn (ltOf cf) e b d2 from ⟨sorted_congr HT.out.2.2.1 fun i h1 _ => HP2.2.1 i (.inr h1), sorted_congr HT.out.2.2.2.1 fun i h1 _ => HP2.2.1 i (.inr (by omega))⟩)
               have HFin := Lib.hid (show ∀ d3, PermIn mid b d2 d3 → SortedIn (ltOf cf) mid b d3 → PermIn a b d d3 ∧ SortedIn (ltOf cf) a b d3 from fun d3 h1 h2 => by
                have hs1 := HS1.out; have := merge_done (by omega) (by omega) (by omega) HT.out.2.2.2.2 HP2 HQ2 h1 h2
                exact ⟨permIn_trans _ _ _ _ _ HP1 this.1, this.2⟩)
               have HS2 := Lib.hid hs2; clear HP2 HQ2 hs2
               by_cases g5 : mid < e
               · by_cases g6 : e < b
                 · try (exfalso; omega)
                   all_goals
                    have g5' : (mid : Int) < (e : Int) := by omega
                    have g6' : (e : Int) < (b : Int) := by omega
                    have hcall := IH.out mid e b d2 _ (by omega) (by rw [HS2.out]; omega) S3.out g5 g6 (by rw [HS2.out]; omega) (by rw [HS2.out]; omega) HE2.out.1 HE2.out.2; rw [HS2.out] at hcall; clear S3
                    go_wp2_with (go_at_fn 142; refine hcall.mono ?_; rintro e w1 ⟨rfl, d3, q1, q2, q3⟩)
                    go_end0
                    exact ⟨rfl, d3, (HFin.out d3 q1 q2).1, (HFin.out d3 q1 q2).2, q3⟩
                 · try (exfalso; omega)
                   all_goals
                    have g5' : (mid : Int) < (e : Int) := by omega
                    have g6' : ¬ (e : Int) < (b : Int) := by omega
                    have HF := Lib.hid (HFin.out d2 (permIn_refl _ _ _) (by rw [show b = e by omega]; exact HE2.out.1))
                    go_wp2_with fail
                    go_end0
                    exact ⟨rfl, d2, HF.out.1, HF.out.2, S3.out⟩
               · try (exfalso; omega)
                 all_goals
                  have g5' : ¬ (mid : Int) < (e : Int) := by omega
                  have HF := Lib.hid (HFin.out d2 (permIn_refl _ _ _) (by rw [show mid = e by omega]; exact HE2.out.2))
                  go_wp2_with fail
                  go_end0
                  exact ⟨rfl, d2, HF.out.1, HF.out.2, S3.out⟩
          · have g1' : (s : Int) < (m : Int) := by omega
            have g2' : ¬ (m : Int) < (e : Int) := by omega
            have hrot := rot_self (d := d) (x := s) (m := m) (y := e) (by omega) (by omega) (.inr (by omega)); have HP1 := permIn_refl d a b; have S2 := S1.out; clear S1; obtain ⟨d1, hd1⟩ : ∃ d1, d1 = d := ⟨_, rfl⟩; rw [show Rot d s m e d = Rot d s m e d1 by rw [hd1]] at hrot; rw [show PermIn a b d d = PermIn a b d d1 by rw [hd1]] at HP1; rw [← hd1] at S2; clear hd1
            go_upto_region 41 with (fail)
            have HT := Lib.hid (HM.out d1 hrot); have hs1 : d1.size = d.size := HP1.1; have S3 := Lib.hid S2; clear hrot S2
            by_cases g3 : a < s
            · by_cases g4 : s < mid
              · try (exfalso; omega)
                all_goals
                 have g3' : (a : Int) < (s : Int) := by omega
                 have g4' : (s : Int) < (mid : Int) := by omega
                 have hcall := IH.out a s mid d1 _ (by omega) (by omega) S3.out g3 g4 (by omega) (by omega) HT.out.1 HT.out.2.1; rw [hs1] at hcall; have HS1 := Lib.hid hs1; clear S3 hs1
                 go_upto_region 43 with (go_at_fn 142; refine hcall.mono ?_; rintro e w1 ⟨rfl, d2, HP2, HQ2, S2⟩)
                 have S3 := Lib.hid S2; clear S2 hcall; have hs2 : d2.size = d.size := HP2.1.trans HS1.out; have HE2 := Lib.hid (show SortedIn (ltOf cf) mid e d2 ∧ SortedIn (ltOf cf) e b d2 from ⟨sorted_congr HT.out.2.2.1 fun i h1 _ => HP2.2.1 i (.inr h1), sorted_congr HT.out.2.2.2.1 fun i h1 _ => HP2.2.1 i (.inr (by omega))⟩)
                 have HFin := Lib.hid (show ∀ d3, PermIn mid b d2 d3 → SortedIn (ltOf cf) mid b d3 → PermIn a b d d3 ∧ SortedIn (ltOf cf) a b d3 from fun d3 h1 h2 => by
                  have hs1 := HS1.out; have := merge_done (by omega) (by omega) (by omega) HT.out.2.2.2.2 HP2 HQ2 h1 h2
                  exact ⟨permIn_trans _ _ _ _ _ HP1 this.1, this.2⟩)
                 have HS2 := Lib.hid hs2; clear HP2 HQ2 hs2
                 by_cases g5 : mid < e
                 · by_cases g6 : e < b
                   · try (exfalso; omega)
                     all_goals
                      have g5' : (mid : Int) < (e : Int) := by omega
                      have g6' : (e : Int) < (b : Int) := by omega
                      have hcall := IH.out mid e b d2 _ (by omega) (by rw [HS2.out]; omega) S3.out g5 g6 (by rw [HS2.out]; omega) (by rw [HS2.out]; omega) HE2.out.1 HE2.out.2; rw [HS2.out] at hcall; clear S3
                      go_wp2_with (go_at_fn 142; refine hcall.mono ?_; rintro e w1 ⟨rfl, d3, q1, q2, q3⟩)
                      go_end0
                      exact ⟨rfl, d3, (HFin.out d3 q1 q2).1, (HFin.out d3 q1 q2).2, q3⟩
                   · try (exfalso; omega)
                     all_goals
                      have g5' : (mid : Int) < (e : Int) := by omega
                      have g6' : ¬ (e : Int) < (b : Int) := by omega
                      have HF := Lib.hid (HFin.out d2 (permIn_refl _ _ _) (by rw [show b = e by omega]; exact HE2.out.1))
                      go_wp2_with fail
                      go_end0
                      exact ⟨rfl, d2, HF.out.1, HF.out.2, S3.out⟩
                 · try (exfalso; omega)
                   all_goals
                    have g5' : ¬ (mid : Int) < (e : Int) := by omega
                    have HF := Lib.hid (HFin.out d2 (permIn_refl _ _ _) (by rw [show mid = e by omega]; exact HE2.out.2))
                    go_wp2_with fail
                    go_end0
                    exact ⟨rfl, d2, HF.out.1, HF.out.2, S3.out⟩
              · try (exfalso; omega)
                all_goals
                 have g3' : (a : Int) < (s : Int) := by omega
                 have g4' : ¬ (s : Int) < (mid : Int) := by omega
                 have HP2 := permIn_refl d1 a mid; have HQ2 : SortedIn (ltOf cf) a mid d1 := by rw [show mid = s by omega]; exact HT.out.1
                 have HS1 := Lib.hid hs1; clear hs1; obtain ⟨d2, hd2⟩ : ∃ d2, d2 = d1 := ⟨_, rfl⟩; rw [show PermIn a mid d1 d1 = PermIn a mid d1 d2 by rw [hd2]] at HP2; rw [← hd2] at S3 HQ2; clear hd2
                 go_upto_region 43 with (fail)
                 have hs2 : d2.size = d.size := HP2.1.trans HS1.out; have HE2 := Lib.hid (show SortedIn (ltOf cf) mid e d2 ∧ SortedIn (ltOf cf) e b d2 from ⟨sorted_congr HT.out.2.2.1 fun i h1 _ => HP2.2.1 i (.inr h1), sorted_congr HT.out.2.2.2.1 fun i h1 _ => HP2.2.1 i (.inr (by omega))⟩)
                 have HFin := Lib.hid (show ∀ d3, PermIn mid b d2 d3 → SortedIn (ltOf cf) mid b d3 → PermIn a b d d3 ∧ SortedIn (ltOf cf) a b d3 from fun d3 h1 h2 => by
                  have hs1 := HS1.out; have := merge_done (by omega) (by omega) (by omega) HT.out.2.2.2.2 HP2 HQ2 h1 h2
                  exact ⟨permIn_trans _ _ _ _ _ HP1 this.1, this.2⟩)
                 have HS2 := Lib.hid hs2; clear HP2 HQ2 hs2
                 by_cases g5 : mid < e
                 · by_cases g6 : e < b
                   · try (exfalso; omega)
                     all_goals
                      have g5' : (mid : Int) < (e : Int) := by omega
                      have g6' : (e : Int) < (b : Int) := by omega
                      have hcall := IH.out mid e b d2 _ (by omega) (by rw [HS2.out]; omega) S3.out g5 g6 (by rw [HS2.out]; omega) (by rw [HS2.out]; omega) HE2.out.1 HE2.out.2; rw [HS2.out] at hcall; clear S3
                      go_wp2_with (go_at_fn 142; refine hcall.mono ?_; rintro e w1 ⟨rfl, d3, q1, q2, q3⟩)
                      go_end0
                      exact ⟨rfl, d3, (HFin.out d3 q1 q2).1, (HFin.out d3 q1 q2).2, q3⟩
                   · try (exfalso; omega)
                     all_goals
                      have g5' : (mid : Int) < (e : Int) := by omega
                      have g6' : ¬ (e : Int) < (b : Int) := by omega
                      have HF := Lib.hid (HFin.out d2 (permIn_refl _ _ _) (by rw [show b = e by omega]; exact HE2.out.1))
                      go_wp2_with fail
                      go_end0
                      exact ⟨rfl, d2, HF.out.1, HF.out.2, S3.out⟩
                 · try (exfalso; omega)
                   all_goals
                    have g5' : ¬ (mid : Int) < (e : Int) := by omega
                    have HF := Lib.hid (HFin.out d2 (permIn_refl _ _ _) (by rw [show mid = e by omega]; exact HE2.out.2))
                    go_wp2_with fail
                    go_end0
                    exact ⟨rfl, d2, HF.out.1, HF.out.2, S3.out⟩
            · try (exfalso; omega)
              all_goals
               have g3' : ¬ (a : Int) < (s : Int) := by omega
               have HP2 := permIn_refl d1 a mid; have HQ2 : SortedIn (ltOf cf) a mid d1 := by rw [show a = s by omega]; exact HT.out.2.1
               have HS1 := Lib.hid hs1; clear hs1; obtain ⟨d2, hd2⟩ : ∃ d2, d2 = d1 := ⟨_, rfl⟩; rw [show PermIn a mid d1 d1 = PermIn a mid d1 d2 by rw [hd2]] at HP2; rw [← hd2] at S3 HQ2; clear hd2
               go_upto_region 43 with (fail)
               have hs2 : d2.size = d.size := HP2.1.trans HS1.out; have HE2 := Lib.hid (show SortedIn (ltOf cf) mid e d2 ∧ SortedIn (ltOf cf) e b d2 from ⟨sorted_congr HT.out.2.2.1 fun i h1 _ => HP2.2.1 i (.inr h1), sorted_congr HT.out.2.2.2.1 fun i h1 _ => HP2.2.1 i (.inr (by omega))⟩)
               have HFin := Lib.hid (show ∀ d3, PermIn mid b d2 d3 → SortedIn (ltOf cf) mid b d3 → PermIn a b d d3 ∧ SortedIn (ltOf cf) a b d3 from fun d3 h1 h2 => by
                have hs1 := HS1.out; have := merge_done (by omega) (by omega) (by omega) HT.out.2.2.2.2 HP2 HQ2 h1 h2
                exact ⟨permIn_trans _ _ _ _ _ HP1 this.1, this.2⟩)
               have HS2 := Lib.hid hs2; clear HP2 HQ2 hs2
               by_cases g5 : mid < e
               · by_cases g6 : e < b
                 · try (exfalso; omega)
                   all_goals
                    have g5' : (mid : Int) < (e : Int) := by omega
                    have g6' : (e : Int) < (b : Int) := by omega
                    have hcall := IH.out mid e b d2 _ (by omega) (by rw [HS2.out]; omega) S3.out g5 g6 (by rw [HS2.out]; omega) (by rw [HS2.out]; omega) HE2.out.1 HE2.out.2; rw [HS2.out] at hcall; clear S3
                    go_wp2_with (go_at_fn 142; refine hcall.mono ?_; rintro e w1 ⟨rfl, d3, q1, q2, q3⟩)
                    go_end0
                    exact ⟨rfl, d3, (HFin.out d3 q1 q2).1, (HFin.out d3 q1 q2).2, q3⟩
                 · try (exfalso; omega)
                   all_goals
                    have g5' : (mid : Int) < (e : Int) := by omega
                    have g6' : ¬ (e : Int) < (b : Int) := by omega
                    have HF := Lib.hid (HFin.out d2 (permIn_refl _ _ _) (by rw [show b = e by omega]; exact HE2.out.1))
                    go_wp2_with fail
                    go_end0
                    exact ⟨rfl, d2, HF.out.1, HF.out.2, S3.out⟩
               · try (exfalso; omega)
                 all_goals
                  have g5' : ¬ (mid : Int) < (e : Int) := by omega
                  have HF := Lib.hid (HFin.out d2 (permIn_refl _ _ _) (by rw [show mid = e by omega]; exact HE2.out.2))
                  go_wp2_with fail
                  go_end0
                  exact ⟨rfl, d2, HF.out.1, HF.out.2, S3.out⟩
        · have g1' : ¬ (s : Int) < (m : Int) := by omega
          have hrot := rot_self (d := d) (x := s) (m := m) (y := e) (by omega) (by omega) (.inl (by omega)); have HP1 := permIn_refl d a b; have S2 := S1.out; clear S1; obtain ⟨d1, hd1⟩ : ∃ d1, d1 = d := ⟨_, rfl⟩; rw [show Rot d s m e d = Rot d s m e d1 by rw [hd1]] at hrot; rw [show PermIn a b d d = PermIn a b d d1 by rw [hd1]] at HP1; rw [← hd1] at S2; clear hd1
          go_upto_region 41 with (fail)
          have HT := Lib.hid (HM.out d1 hrot); have hs1 : d1.size = d.size := HP1.1; have S3 := Lib.hid S2; clear hrot S2
          by_cases g3 : a < s
          · by_cases g4 : s < mid
            · try (exfalso; omega)
              all_goals
               have g3' : (a : Int) < (s : Int) := by omega
               have g4' : (s : Int) < (mid : Int) := by omega
               have hcall := IH.out a s mid d1 _ (by omega) (by omega) S3.out g3 g4 (by omega) (by omega) HT.out.1 HT.out.2.1; rw [hs1] at hcall; have HS1 := Lib.hid hs1; clear S3 hs1
               go_upto_region 43 with (go_at_fn 142; refine hcall.mono ?_; rintro e w1 ⟨rfl, d2, HP2, HQ2, S2⟩)
               have S3 := Lib.hid S2; clear S2 hcall; have hs2 : d2.size = d.size := HP2.1.trans HS1.out; have HE2 := Lib.hid (show SortedIn (ltOf cf) mid e d2 ∧ SortedIn (ltOf cf) e b d2 from ⟨sorted_congr HT.out.2.2.1 fun i h1 _ => HP2.2.1 i (.inr h1), sorted_congr HT.out.2.2.2.1 fun i h1 _ => HP2.2.1 i (.inr (by omega))⟩)
               have HFin := Lib.hid (show ∀ d3, PermIn mid b d2 d3 → SortedIn (ltOf cf) mid b d3 → PermIn a b d d3 ∧ SortedIn (ltOf cf) a b d3 from fun d3 h1 h2 => by
                have hs1 := HS1.out; have := merge_done (by omega) (by omega) (by omega) HT.out.2.2.2.2 HP2 HQ2 h1 h2
                exact ⟨permIn_trans _ _ _ _ _ HP1 this.1, this.2⟩)
               have HS2 := Lib.hid hs2; clear HP2 HQ2 hs2
               by_cases g5 : mid < e
               · by_cases g6 : e < b
                 · try (exfalso; omega)
                   all_goals
                    have g5' : (mid : Int) < (e : Int) := by omega
                    have g6' : (e : Int) < (b : Int) := by omega
                    have hcall := IH.out mid e b d2 _ (by omega) (by rw [HS2.out]; omega) S3.out g5 g6 (by rw [HS2.out]; omega) (by rw [HS2.out]; omega) HE2.out.1 HE2.out.2; rw [HS2.out] at hcall; clear S3
                    go_wp2_with (go_at_fn 142; refine hcall.mono ?_; rintro e w1 ⟨rfl, d3, q1, q2, q3⟩)
                    go_end0
                    exact ⟨rfl, d3, (HFin.out d3 q1 q2).1, (HFin.out d3 q1 q2).2, q3⟩
                 · try (exfalso; omega)
                   all_goals
                    have g5' : (mid : Int) < (e : Int) := by omega
                    have g6' : ¬ (e : Int) < (b : Int) := by omega
                    have HF := Lib.hid (HFin.out d2 (permIn_refl _ _ _) (by rw [show b = e by omega]; exact HE2.out.1))
                    go_wp2_with fail
                    go_end0
                    exact ⟨rfl, d2, HF.out.1, HF.out.2, S3.out⟩
               · try (exfalso; omega)
                 all_goals
                  have g5' : ¬ (mid : Int) < (e : Int) := by omega
                  have HF := Lib.hid (HFin.out d2 (permIn_refl _ _ _) (by rw [show mid = e by omega]; exact HE2.out.2))
                  go_wp2_with fail
                  go_end0
                  exact ⟨rfl, d2, HF.out.1, HF.out.2, S3.out⟩
            · try (exfalso; omega)
              all_goals
               have g3' : (a : Int) < (s : Int) := by omega
               have g4' : ¬ (s : Int) < (mid : Int) := by omega
               have HP2 := permIn_refl d1 a mid; have HQ2 : SortedIn (ltOf cf) a mid d1 := by rw [show mid = s by omega]; exact HT.out.1
               have HS1 := Lib.hid hs1; clear hs1; obtain ⟨d2, hd2⟩ : ∃ d2, d2 = d1 := ⟨_, rfl⟩; rw [show PermIn a mid d1 d1 = PermIn a mid d1 d2 by rw [hd2]] at HP2; rw [← hd2] at S3 HQ2; clear hd2
               go_upto_region 43 with (fail)
               have hs2 : d2.size = d.size := HP2.1.trans HS1.out; have HE2 := Lib.hid (show SortedIn (ltOf cf) mid e d2 ∧ SortedIn (ltOf cf) e b d2 from ⟨sorted_congr HT.out.2.2.1 fun i h1 _ => HP2.2.1 i (.inr h1), sorted_congr HT.out.2.2.2.1 fun i h1 _ => HP2.2.1 i (.inr (by omega))⟩)
               have HFin := Lib.hid (show ∀ d3, PermIn mid b d2 d3 → SortedIn (ltOf cf) mid b d3 → PermIn a b d d3 ∧ SortedIn (ltOf cf) a b d3 from fun d3 h1 h2 => by
                have hs1 := HS1.out; have := merge_done (by omega) (by omega) (by omega) HT.out.2.2.2.2 HP2 HQ2 h1 h2
                exact ⟨permIn_trans _ _ _ _ _ HP1 this.1, this.2⟩)
               have HS2 := Lib.hid hs2; clear HP2 HQ2 hs2
               by_cases g5 : mid < e
               · by_cases g6 : e < b
                 · try (exfalso; omega)
                   all_goals
                    have g5' : (mid : Int) < (e : Int) := by omega
                    have g6' : (e : Int) < (b : Int) := by omega
                    have hcall := IH.out mid e b d2 _ (by omega) (by rw [HS2.out]; omega) S3.out g5 g6 (by rw [HS2.out]; omega) (by rw [HS2.out]; omega) HE2.out.1 HE2.out.2; rw [HS2.out] at hcall; clear S3
                    go_wp2_with (go_at_fn 142; refine hcall.mono ?_; rintro e w1 ⟨rfl, d3, q1, q2, q3⟩)
                    go_end0
                    exact ⟨rfl, d3, (HFin.out d3 q1 q2).1, (HFin.out d3 q1 q2).2, q3⟩
                 · try (exfalso; omega)
                   all_goals
                    have g5' : (mid : Int) < (e : Int) := by omega
                    have g6' : ¬ (e : Int) < (b : Int) := by omega
                    have HF := Lib.hid (HFin.out d2 (permIn_refl _ _ _) (by rw [show b = e by omega]; exact HE2.out.1))
                    go_wp2_with fail
                    go_end0
                    exact ⟨rfl, d2, HF.out.1, HF.out.2, S3.out⟩
               · try (exfalso; omega)
                 all_goals
                  have g5' : ¬ (mid : Int) < (e : Int) := by omega
                  have HF := Lib.hid (HFin.out d2 (permIn_refl _ _ _) (by rw [show mid = e by omega]; exact HE2.out.2))
                  go_wp2_with fail
                  go_end0
                  exact ⟨rfl, d2, HF.out.1, HF.out.2, S3.out⟩
          · try (exfalso; omega)
            all_goals
             have g3' : ¬ (a : Int) < (s : Int) := by omega
             have HP2 := permIn_refl d1 a mid; have HQ2 : SortedIn (ltOf cf) a mid d1 := by rw [show a = s by omega]; exact HT.out.2.1
             have HS1 := Lib.hid hs1; clear hs1; obtain ⟨d2, hd2⟩ : ∃ d2, d2 = d1 := ⟨_, rfl⟩; rw [show PermIn a mid d1 d1 = PermIn a mid d1 d2 by rw [hd2]] at HP2; rw [← hd2] at S3 HQ2; clear hd2
             go_upto_region 43 with (fail)
             have hs2 : d2.size = d.size := HP2.1.trans HS1.out; have HE2 := Lib.hid (show SortedIn (ltOf cf) mid e d2 ∧ SortedIn (ltOf cf) e b d2 from ⟨sorted_congr HT.out.2.2.1 fun i h1 _ => HP2.2.1 i (.inr h1), sorted_congr HT.out.2.2.2.1 fun i h1 _ => HP2.2.1 i (.inr (by omega))⟩)
             have HFin := Lib.hid (show ∀ d3, PermIn mid b d2 d3 → SortedIn (ltOf cf) mid b d3 → PermIn a b d d3 ∧ SortedIn (ltOf cf) a b d3 from fun d3 h1 h2 => by
              have hs1 := HS1.out; have := merge_done (by omega) (by omega) (by omega) HT.out.2.2.2.2 HP2 HQ2 h1 h2
              exact ⟨permIn_trans _ _ _ _ _ HP1 this.1, this.2⟩)
             have HS2 := Lib.hid hs2; clear HP2 HQ2 hs2
             by_cases g5 : mid < e
             · by_cases g6 : e < b
               · try (exfalso; omega)
                 all_goals
                  have g5' : (mid : Int) < (e : Int) := by omega
                  have g6' : (e : Int) < (b : Int) := by omega
                  have hcall := IH.out mid e b d2 _ (by omega) (by rw [HS2.out]; omega) S3.out g5 g6 (by rw [HS2.out]; omega) (by rw [HS2.out]; omega) HE2.out.1 HE2.out.2; rw [HS2.out] at hcall; clear S3
                  go_wp2_with (go_at_fn 142; refine hcall.mono ?_; rintro e w1 ⟨rfl, d3, q1, q2, q3⟩)
                  go_end0
                  exact ⟨rfl, d3, (HFin.out d3 q1 q2).1, (HFin.out d3 q1 q2).2, q3⟩
               · try (exfalso; omega)
                 all_goals
                  have g5' : (mid : Int) < (e : Int) := by omega
                  have g6' : ¬ (e : Int) < (b : Int) := by omega
                  have HF := Lib.hid (HFin.out d2 (permIn_refl _ _ _) (by rw [show b = e by omega]; exact HE2.out.1))
                  go_wp2_with fail
                  go_end0
                  exact ⟨rfl, d2, HF.out.1, HF.out.2, S3.out⟩
             · try (exfalso; omega)
               all_goals
                have g5' : ¬ (mid : Int) < (e : Int) := by omega
                have HF := Lib.hid (HFin.out d2 (permIn_refl _ _ _) (by rw [show mid = e by omega]; exact HE2.out.2))
                go_wp2_with fail
                go_end0
                exact ⟨rfl, d2, HF.out.1, HF.out.2, S3.out⟩
end
end Go.Proofs.YtifcelebfagjbaaGreatDoor
namespace Go.Proofs.YtifcelebfagjbaaGreatDoor
open Go.RowKit Go.Lib Go.Sort Go.Tw.Stab
section
variable {P : Program} {α : Type} [Inhabited α]
def InsOk (P : Program) (enc : α → List Value) (k : Nat) (cf : α → α → Int) (g : Nat) (cb : Array Value) (blk off cap n : Nat) (w0 : World) : Prop :=
 ∀ (a b : Nat) (d : Array α) (w : World), d.size = n → SWK enc k w0 blk off d w → a ≤ b → b ≤ n →
  Calls P 141 #[.slice (some ⟨blk, off, none⟩) n cap, .int .i64 a, .int .i64 b, .func (.func g) #[] cb] w fun e w' => e = .returned (.tuple #[]) ∧ ∃ d', PermIn a b d d' ∧ SortedIn (ltOf cf) a b d' ∧ SWK enc k w0 blk off d' w'
set_option maxHeartbeats 4000000 in
set_option maxRecDepth 1000000 in
theorem stable_any {k : Nat} (L : StabL P k) (enc : α → List Value) (cf : α → α → Int) (hO : SWO (ltOf cf)) (g : Nat) (cb : Array Value) (blk off cap : Nat) (d : Array α) (w : World)
  (eg : ∀ args w, (callFunc g args).run P w = .ok (.enter g args) w) (hcmp : CmpLays P g cb enc k cf blk off d.size w) (R : RowK enc k w blk off d) (hI : InsOk P enc k cf g cb blk off cap d.size w) (h60 : d.size < 60) :
  Calls P 117 #[.slice (some ⟨blk, off, none⟩) d.size cap, .int .i64 d.size, .func (.func g) #[] cb] w fun e w' =>
   e = .returned (.tuple #[]) ∧ ∃ d', PermIn 0 d.size d d' ∧ SortedIn (ltOf cf) 0 d.size d' ∧ SWK enc k w blk off d' w' := by
 have mixed := L.mixed; have ti := L.ti; have ai := L.ai; have zi := L.zi; have vi := L.vi; have tu := L.tu; have au := L.au; have zu := L.zu; have tb := L.tb; have ab := L.ab; have zb := L.zb; have vb := L.vb; have ts := L.ts; have asl := L.asl; have zs := L.zs; have vs := L.vs; have af := L.af; have zf := L.zf; have aE := L.aE; have zE := L.zE; have FG := L.fSt; have e77 := L.eSM; have e76 := L.eIn; have S0 : Aside (SWK enc k w blk off d w) := SWK.start R.hH; have HI : Aside _ := hI; have HS : Aside _ := symMerge_any L enc cf hO g cb blk off cap d w eg hcmp R; clear hcmp hI; obtain ⟨n, hn⟩ : ∃ n, d.size = n := ⟨_, rfl⟩; rw [hn] at h60 HI ⊢; have HN := Lib.hid hn; clear hn
 go_enter FG, Tryz.ntmps117
 go_wp2
 go_loopg [7, 8] 4 (fun gx sa sb wr => ∃ (x : Nat) (dk : Array α), sa = .int .i64 ((x : Int) * 20) ∧ sb = .int .i64 ((x : Int) * 20 + 20) ∧ x + gx = 4 ∧ x * 20 ≤ n ∧ dk.size = n ∧ Aside (SWK enc k w blk off dk wr) ∧ Aside (PermIn 0 n d dk ∧ ∀ y, y < x → SortedIn (ltOf cf) (y * 20) (y * 20 + 20) dk))
 case atStart => exact ⟨0, d, rfl, rfl, rfl, by omega, HN.out, S0, permIn_refl _ _ _, fun y h => by omega⟩
 case round =>
  clear S0; obtain ⟨x, dk, rfl, rfl, hx, hxn, hds, S1, HP⟩ := hrel
  by_cases hlt : x * 20 + 20 ≤ n
  · have hlt' : ((x : Int) * 20 + 20) ≤ (n : Int) := by omega
    have hcall := HI.out (x * 20) (x * 20 + 20) dk wr hds S1.out (by omega) hlt; simp only [Int.natCast_mul, Int.natCast_add, Int.cast_ofNat_Int] at hcall; clear S1
    go_wp2_with (go_at_fn 141; refine hcall.mono ?_; rintro e w1 ⟨rfl, d1, q1, q2, q3⟩)
    go_roundg (4 - (x + 1))
    case measure => omega
    case rel => exact ⟨x + 1, d1, by go_num, by go_num, by omega, by omega, q1.1.trans hds, q3, permIn_trans _ _ _ _ _ HP.out.1 (permIn_mono _ _ _ _ 0 n (by omega) (by omega) (by omega) q1), fun y hy => by
     by_cases e : y = x
     · subst e; exact q2
     · exact sorted_congr (HP.out.2 y (by omega)) fun i h1 h2 => q1.2.1 i (.inl (by omega))⟩
  · have hlt' : ¬ ((x : Int) * 20 + 20) ≤ (n : Int) := by omega
    have hcall := HI.out (x * 20) n dk wr hds S1.out hxn (Nat.le_refl _); simp only [Int.natCast_mul, Int.cast_ofNat_Int] at hcall; clear S1
    go_wp2_with (go_at_fn 141; refine hcall.mono ?_; rintro e w1 ⟨rfl, d1, q1, q2, q3⟩)
    have HA : Aside (PermIn 0 n d d1) := permIn_trans _ _ _ _ _ HP.out.1 (permIn_mono _ _ _ _ 0 n (by omega) (by omega) (by omega) q1)
    have HB : Aside (SortedIn (ltOf cf) 0 (min 20 n) d1 ∧ SortedIn (ltOf cf) 20 (min 40 n) d1 ∧ SortedIn (ltOf cf) 40 n d1) := by
     have hx3 : x = 0 ∨ x = 1 ∨ x = 2 := by omega
     have h0 : 0 < x → SortedIn (ltOf cf) 0 20 d1 := fun h => sorted_congr (HP.out.2 0 h) fun i h1 h2 => q1.2.1 i (.inl (by omega))
     have h1 : 1 < x → SortedIn (ltOf cf) 20 40 d1 := fun h => sorted_congr (HP.out.2 1 h) fun i h1 h2 => q1.2.1 i (.inl (by omega))
     rcases hx3 with rfl | rfl | rfl
     · exact ⟨sorted_sub q2 (by omega) (by omega), fun i j _ _ _ => by omega, fun i j _ _ _ => by omega⟩
     · exact ⟨sorted_sub (h0 (by omega)) (by omega) (by omega), sorted_sub q2 (by omega) (by omega), fun i j _ _ _ => by omega⟩
     · exact ⟨sorted_sub (h0 (by omega)) (by omega) (by omega), sorted_sub (h1 (by omega)) (by omega) (by omega), q2⟩
    have hd1 : d1.size = n := q1.1.trans hds; have S1 : Aside (SWK enc k w blk off d1 w1) := q3; clear q1 q2 q3 HP hcall hlt hlt' hx hxn hds
    go_loopg [6, 7, 8, 9] 2 (fun gx sc _ _ _ wx => ∃ (bs : Nat) (dk : Array α), sc = .int .i64 bs ∧ dk.size = n ∧ Aside (SWK enc k w blk off dk wx) ∧ Aside (PermIn 0 n d dk) ∧ Aside ((gx = 2 ∧ bs = 20 ∧ SortedIn (ltOf cf) 0 (min 20 n) dk ∧ SortedIn (ltOf cf) 20 (min 40 n) dk ∧ SortedIn (ltOf cf) 40 n dk) ∨ (gx = 1 ∧ bs = 40 ∧ SortedIn (ltOf cf) 0 (min 40 n) dk ∧ SortedIn (ltOf cf) 40 n dk) ∨ (bs = 80 ∧ SortedIn (ltOf cf) 0 n dk)))
    case atStart => exact ⟨20, d1, rfl, hd1, S1, HA, .inl ⟨rfl, rfl, HB.out⟩⟩
    case round =>
     clear S1 HA HB hd1; obtain ⟨bs, dk, rfl, hds, S1, HA, HB⟩ := hrel
     by_cases hlt : bs < n
     · have hlt' : (bs : Int) < (n : Int) := by omega
       rcases HB.out with ⟨hgk, rfl, b1, b2, b3⟩ | ⟨hgk, rfl, b1, b2⟩ | ⟨rfl, b1⟩
       · have HB' : Aside (SortedIn (ltOf cf) 0 (min 20 n) dk ∧ SortedIn (ltOf cf) 20 (min 40 n) dk ∧ SortedIn (ltOf cf) 40 n dk) := ⟨b1, b2, b3⟩
         clear b1 b2 b3 HB; have hgk' : 1 ≤ gk ∧ ¬ gk = 1 := by omega
         clear hgk; simp only [Int.cast_ofNat_Int] at hlt' ⊢; go_wp2
         go_loopg [7, 8] 1 (fun gx sa sb wx => ∃ (dj : Array α), dj.size = n ∧ Aside (SWK enc k w blk off dj wx) ∧ Aside (PermIn 0 n d dj) ∧ ((gx = 1 ∧ sa = .int .i64 0 ∧ sb = .int .i64 40 ∧ Aside (SortedIn (ltOf cf) 0 (min 20 n) dj ∧ SortedIn (ltOf cf) 20 (min 40 n) dj ∧ SortedIn (ltOf cf) 40 n dj)) ∨ (gx = 0 ∧ 40 ≤ n ∧ sa = .int .i64 40 ∧ sb = .int .i64 80 ∧ Aside (SortedIn (ltOf cf) 0 40 dj ∧ SortedIn (ltOf cf) 40 n dj))))
         case atStart => exact ⟨dk, hds, S1, HA, .inl ⟨rfl, rfl, rfl, HB'⟩⟩
         case round =>
          clear S1 HA HB' hds; obtain ⟨dj, hds, S1, HA, hor⟩ := hrel
          rcases hor with ⟨hg, rfl, rfl, hB⟩ | ⟨hg, h40, rfl, rfl, hB⟩
          · have HB := Lib.hid hB.out
            clear hB
            by_cases h40 : 40 ≤ n
            · have h40' : (40 : Int) ≤ (n : Int) := by omega
              have hcall := HS.out 100 0 20 40 dj wr (by omega) (by rw [HN.out, hds]) S1.out (by omega) (by omega) (by omega) (by omega) (sorted_sub HB.out.1 (by omega) (by omega)) (sorted_sub HB.out.2.1 (by omega) (by omega)); rw [hds] at hcall; simp only [Int.cast_ofNat_Int] at hcall; clear S1
              go_wp2_with (go_at_fn 142; refine hcall.mono ?_; rintro e w1 ⟨rfl, d1, q1, q2, q3⟩)
              go_roundg 0
              case measure => omega
              case rel => exact ⟨d1, q1.1.trans hds, q3, permIn_trans _ _ _ _ _ HA.out (permIn_mono _ _ _ _ 0 n (by omega) (by omega) (by omega) q1), .inr ⟨rfl, h40, rfl, rfl, q2, sorted_congr HB.out.2.2 fun i h1 _ => q1.2.1 i (.inr h1)⟩⟩
            · have h40' : ¬ (40 : Int) ≤ (n : Int) := by omega
              have h20' : (20 : Int) < (n : Int) := by omega
              have hcall := HS.out 100 0 20 n dj wr (by omega) (by rw [HN.out, hds]) S1.out (by omega) (by omega) (by omega) (by omega) (sorted_sub HB.out.1 (by omega) (by omega)) (sorted_sub HB.out.2.1 (by omega) (by omega)); rw [hds] at hcall; simp only [Int.cast_ofNat_Int] at hcall; clear S1
              go_wp2_with (go_at_fn 142; refine hcall.mono ?_; rintro e w1 ⟨rfl, d1, q1, q2, q3⟩)
              go_roundg 1
              case measure => omega
              case rel => exact ⟨40, d1, by go_num, q1.1.trans hds, q3, permIn_trans _ _ _ _ _ HA.out q1, .inr (.inl ⟨rfl, rfl, sorted_sub q2 (by omega) (by omega), fun i j _ _ _ => by omega⟩)⟩
          · have HB := Lib.hid hB.out
            clear hB; have h80' : ¬ (80 : Int) ≤ (n : Int) := by omega
            have h60' : ¬ (60 : Int) < (n : Int) := by omega
            go_wp2
            go_roundg 1
            case measure => omega
            case rel => exact ⟨40, dj, by go_num, hds, S1, HA, .inr (.inl ⟨rfl, rfl, sorted_sub HB.out.1 (by omega) (by omega), HB.out.2⟩)⟩
       · have HB' := Lib.hid (⟨b1, b2⟩ : SortedIn (ltOf cf) 0 (min 40 n) dk ∧ SortedIn (ltOf cf) 40 n dk)
         clear b1 b2 HB; have h80' : ¬ (80 : Int) ≤ (n : Int) := by omega
         simp only [Int.cast_ofNat_Int] at hlt' ⊢; go_wp2
         go_loopg [7, 8] 0 (fun gx sa sb wx => sa = .int .i64 0 ∧ sb = .int .i64 80 ∧ Aside (SWK enc k w blk off dk wx))
         case atStart => exact ⟨rfl, rfl, S1⟩
         case round =>
          clear S1; obtain ⟨rfl, rfl, S1⟩ := hrel; have hcall := HS.out 100 0 40 n dk wr (by omega) (by rw [HN.out, hds]) S1.out (by omega) (by omega) (by omega) (by omega) (sorted_sub HB'.out.1 (by omega) (by omega)) HB'.out.2; rw [hds] at hcall; simp only [Int.cast_ofNat_Int] at hcall; clear S1
          go_wp2_with (go_at_fn 142; refine hcall.mono ?_; rintro e w1 ⟨rfl, d1, q1, q2, q3⟩)
          go_roundg 0
          case measure => omega
          case rel => exact ⟨80, d1, by go_num, q1.1.trans hds, q3, permIn_trans _ _ _ _ _ HA.out q1, .inr (.inr ⟨rfl, q2⟩)⟩
       · exact absurd h60 (by omega)
     · have hlt' : ¬ (bs : Int) < (n : Int) := by omega
       go_wp2
       go_end0
       refine ⟨rfl, dk, HA.out, ?_, S1.out⟩
       rcases HB.out with ⟨_, rfl, b1, b2, b3⟩ | ⟨_, rfl, b1, b2⟩ | ⟨rfl, b1⟩
       · exact sorted_sub b1 (by omega) (by omega)
       · exact sorted_sub b1 (by omega) (by omega)
       · exact b1
set_option maxHeartbeats 1000000 in
theorem sortStable_any {k : Nat} (L : StabL P k) (enc : α → List Value) (cf : α → α → Int) (hO : SWO (ltOf cf)) (g : Nat) (cb : Array Value) (blk off cap : Nat) (d : Array α) (w : World)
  (eg : ∀ args w, (callFunc g args).run P w = .ok (.enter g args) w) (hcmp : CmpLays P g cb enc k cf blk off d.size w) (R : RowK enc k w blk off d) (hI : InsOk P enc k cf g cb blk off cap d.size w) (h60 : d.size < 60) :
  Calls P 92 #[.slice (some ⟨blk, off, none⟩) d.size cap, .func (.func g) #[] cb] w fun e w' =>
   e = .returned (.tuple #[]) ∧ ∃ d', PermIn 0 d.size d d' ∧ SortedIn (ltOf cf) 0 d.size d' ∧ SWK enc k w blk off d' w' := by
 have mixed := L.mixed; have ti := L.ti; have ai := L.ai; have zi := L.zi; have vi := L.vi; have tu := L.tu; have au := L.au; have zu := L.zu; have tb := L.tb; have ab := L.ab; have zb := L.zb; have vb := L.vb; have ts := L.ts; have asl := L.asl; have zs := L.zs; have vs := L.vs; have af := L.af; have zf := L.zf; have aE := L.aE; have zE := L.zE; have FG := L.fSS; have e56 := L.eSt; have hcall := stable_any L enc cf hO g cb blk off cap d w eg hcmp R hI h60; clear hcmp hI
 go_enter FG, Tryz.ntmps92
 go_wp2_with (go_at_fn 117; refine hcall.mono ?_; rintro e w1 ⟨rfl, d1, q1, q2, q3⟩)
 go_end0
 exact ⟨rfl, d1, q1, q2, q3⟩
end
theorem stabL : StabL Tryz.prog 7 where
 mixed := by kernel_rfl
 fSR := Tryz.func168
 fRo := Tryz.func157
 fSM := Tryz.func142
 fSt := Tryz.func117
 fSS := Tryz.func92
 eSR := enters_of Tryz.func168 (by kernel_rfl) rfl
 eRo := enters_of Tryz.func157 (by kernel_rfl) rfl
 eSM := enters_of Tryz.func142 (by kernel_rfl) rfl
 eSt := enters_of Tryz.func117 (by kernel_rfl) rfl
 eIn := enters_of Tryz.func141 (by kernel_rfl) rfl
 ti := Tryz.underlying3
 ai := Tryz.isAgg3
 zi := Tryz.sizeOf3
 vi := Tryz.zeroValue3
 tu := Tryz.underlying170
 au := Tryz.isAgg170
 zu := Tryz.sizeOf170
 tb := Tryz.underlying4
 ab := Tryz.isAgg4
 zb := Tryz.sizeOf4
 vb := Tryz.zeroValue4
 ts := Tryz.underlying52
 asl := Tryz.isAgg52
 zs := Tryz.sizeOf52
 vs := Tryz.zeroValue52
 af := Tryz.isAgg167
 zf := Tryz.sizeOf167
 aE := Tryz.isAgg49
 zE := Tryz.sizeOf49
end Go.Proofs.YtifcelebfagjbaaGreatDoor
namespace Go.Tw.Po
open Go.RowKit Go.Tw Go.Sort Go.Tw.Ord
open Go.Proofs (sortWorld sortWorldK ltOf)
theorem cCells_one {x : Chg} {ao : Option Addr} {n c : Nat} : ∀ u ∈ cCells x (.slice ao n c), u.oneCell' = true := by
 intro u hu; unfold cCells at hu; simp only [List.mem_cons, List.not_mem_nil, or_false] at hu
 rcases hu with rfl | rfl | rfl | rfl | rfl | rfl | rfl <;> rfl
structure PV (w0 : World) (g B : Nat) where
 p : Chg
 a : Option Addr
 n : Nat
 c : Nat
 sl : SlIs tSI (fun k => B ≤ k ∧ k < w0.heap.size ∧ k ≠ g) w0 (.slice a n c) p.ls
 ok : ChgOk p
instance (w0 : World) (g B : Nat) : Inhabited (PV w0 g B) := ⟨⟨default, none, 0, 0, SlIs.nil, by
 have z : i64ok 0 := by unfold i64ok; decide
 exact ⟨Nat.zero_le _, Nat.zero_le _, Nat.zero_le _, z, z, z⟩⟩⟩
def pvE {w0 : World} {g B : Nat} (x : PV w0 g B) : List Value := cCells x.p (.slice x.a x.n x.c)
def pvC {w0 : World} {g B : Nat} (x y : PV w0 g B) : Int := chgC x.p y.p
theorem pvC_cmp (w0 : World) (g B : Nat) : Cmp (pvC (w0 := w0) (g := g) (B := B)) := chgC_cmp.on PV.p
theorem AllIs.pv {e : TypeId} {w0 : World} {g B : Nat} : ∀ {css : List (List Value)} {l : List Chg}, AllIs (tChg e) (fun k => B ≤ k ∧ k < w0.heap.size ∧ k ≠ g) w0 css l → ∃ ds : List (PV w0 g B), ds.map PV.p = l ∧ css = ds.map pvE
 | [], [], _ => ⟨[], rfl, rfl⟩
 | cs :: css, x :: l, h => by
  obtain ⟨ds, h1, h2⟩ := AllIs.pv h.2; obtain ⟨vs, rfl, g5, g6⟩ := tChg_is h.1; obtain ⟨a, c, _, _, rfl, -⟩ := id g6; exact ⟨⟨x, a, _, c, g6, g5⟩ :: ds, by simp [h1], by simp [h2, pvE]⟩
 | [], _ :: _, h => h.elim
 | _ :: _, [], h => h.elim
theorem sortWorldK_same {w0 : World} {g B : Nat} (m : Nat) (dk : Array (PV w0 g B)) (os : Array Obj) : SameOn (fun k => k < w0.heap.size ∧ k ≠ g) w0 (sortWorldK pvE 7 w0 g 0 m dk os) ∧ w0.heap.size ≤ (sortWorldK pvE 7 w0 g 0 m dk os).heap.size := by
 have h1 : ∀ k, k < w0.heap.size → k ≠ g → (sortWorldK pvE 7 w0 g 0 m dk os).heap[k]? = w0.heap[k]? := fun k hk hne => by
  have e1 : (putRowK pvE 7 (Sort.ahead w0 m) g 0 dk).heap[k]? = w0.heap[k]? := by
   unfold putRowK Sort.putRow Sort.mapBlock
   rw [show ∀ (h : Array Obj) (f : Obj → Obj), (h.modify g f)[k]? = h[k]? from fun h f => by
    rw [Array.getElem?_modify, if_neg (fun e => hne e.symm)]]
   rfl
  have e2 : k < (putRowK pvE 7 (Sort.ahead w0 m) g 0 dk).heap.size := by
   unfold putRowK Sort.putRow Sort.mapBlock; simp; exact hk
  unfold sortWorldK; rw [Sort.heap_grow_old _ _ e2, e1]
 refine ⟨fun k hk => h1 k hk.1 hk.2, ?_⟩; unfold sortWorldK Sort.grow putRowK Sort.putRow Sort.mapBlock Sort.ahead; simp
theorem sortWorldK_belowP {w0 : World} {g B0 : Nat} (m : Nat) (dk : Array (PV w0 g B0)) (os : Array Obj) {B : Nat} (hB : B ≤ w0.heap.size) (hb : B ≤ g) : Below B w0 (sortWorldK pvE 7 w0 g 0 m dk os) :=
 ⟨rfl, rfl, rfl, (sortWorldK_same m dk os).2, fun k hk => (sortWorldK_same m dk os).1 k ⟨by omega, by omega⟩⟩
theorem pv_perm {α : Type} [Inhabited α] {d d' : Array α} (h : PermIn 0 d.size d d') : d'.toList.Perm d.toList := by
 have := h.2.2; rw [Array.extract_size] at this; rw [show d'.extract 0 d.size = d' by rw [← h.1, Array.extract_size]] at this; exact this
theorem pv_sorted {w0 : World} {g B : Nat} {d : Array (PV w0 g B)} (h : SortedIn (ltOf pvC) 0 d.size d) : (d.toList.map PV.p).Pairwise fun x y => chgC x y ≤ 0 := by
 rw [List.pairwise_map, List.pairwise_iff_getElem]; intro i j hi hj hij; have hj' : j < d.size := by simpa using hj
 have := h i j (Nat.zero_le _) hij hj'; rw [getElem!_pos d j hj', getElem!_pos d i (by omega)] at this; unfold ltOf at this; have a := chgC_cmp.anti d[i].p d[j].p; simp only [decide_eq_false_iff_not, Int.not_lt] at this
 show chgC d.toList[i].p d.toList[j].p ≤ 0
 simp only [Array.getElem_toList]; unfold pvC at this
 omega
theorem holdsPV {w0 w : World} {g' g B : Nat} {t : TypeId} {A : Array Value} {ds : List (PV w0 g' B)} (h : w.heap[g]? = some (.cells A t (0, 0))) (hA : ∀ k j, k < ds.length → j < 7 → A[k * 7 + j]? = (pvE (ds.getD k default))[j]?) : HoldsK pvE 7 w g 0 ds.toArray := by
 intro t' ht; have ht' : t' < ds.length * 7 := by simpa using ht
 refine ⟨?_, frozen_of_row _ _ _ _ _ h⟩; rw [cell_of_row _ _ _ _ _ _ h, Nat.zero_add, get_flatK _ _ _ _ (by simpa using ht')]; have hk : t' / 7 < ds.length := by omega
 have hj : t' % 7 < 7 := Nat.mod_lt _ (by decide); have := hA (t' / 7) (t' % 7) hk hj; rw [show t' / 7 * 7 + t' % 7 = t' by omega] at this; rw [this]
 have e : ds.toArray[t' / 7]! = ds.getD (t' / 7) default := by
  rw [getElem!_pos ds.toArray _ (by simpa using hk), List.getD_eq_getElem?_getD, List.getElem?_eq_getElem hk]; simp
 rw [e, List.getElem?_eq_getElem (by show t' % 7 < 7; exact hj)]
 show some _ = some _
 rw [getElem!_pos (pvE _) (t' % 7) (by show t' % 7 < 7; exact hj)]
 rfl
theorem slP_of {e : TypeId} {w0 w : World} {g cap B : Nat} (hB : B ≤ g) {ds : List (PV w0 g B)} (h : HoldsK pvE 7 w g 0 ds.toArray) (hg : g < w.heap.size) (hw : SameOn (fun k => k < w0.heap.size ∧ k ≠ g) w0 w) (hz : w0.heap.size ≤ w.heap.size) (hc : ds.length ≤ cap) (hm : cap ≤ maxLen) :
  SlIs (tChg e) (fun k => B ≤ k ∧ k < w.heap.size) w (.slice (some ⟨g, 0, none⟩) ds.length cap) (ds.map PV.p) := by
 refine ⟨some ⟨g, 0, none⟩, cap, g, 0, by simp, by simpa using hc, hm, fun e => (by cases e), fun k hk => ?_⟩; have hk' : k < ds.length := by simpa using hk
 refine ⟨rfl, ⟨hB, hg⟩, hg, pvE ds[k], fun j hj => ?_, ?_⟩
 · have hj5 : j < 7 := hj
   have := (h (k * 7 + j) (by simp; omega)).1; rw [Nat.zero_add] at this
   show w.cell? ⟨g, 0 + k * 7 + j, none⟩ = _
   rw [show 0 + k * 7 + j = k * 7 + j by omega, this, get_flatK _ _ _ _ (by simp; omega), show (k * 7 + j) / 7 = k by omega, show (k * 7 + j) % 7 = j by omega]; rw [getElem!_pos ds.toArray k (by simpa using hk')]; rw [List.getElem?_eq_getElem (by show j < 7; exact hj5)]
   show some (id _) = some _
   rw [getElem!_pos _ j (by show j < 7; exact hj5)]; simp
 · rw [List.getElem_map]
   exact tChg_mk ds[k].ok (ds[k].sl.keep (fun q hq => ⟨hq.1, Nat.lt_of_lt_of_le hq.2.1 hz⟩) (fun q hq => hw q hq.2))
end Go.Tw.Po
namespace Go.Proofs.YtifcelebfagjbaaGreatDoor
open Go.RowKit Go.Tw Go.Tw.Ord Go.Tw.Po Go.Sort
theorem cmpLaysP (w0 : World) (g B size : Nat) : CmpLays Tryz.prog 93 #[] (pvE (w0 := w0) (g := g) (B := B)) 7 pvC g 0 size w0 := fun m os dk _ x y => by
 obtain ⟨h1, h2⟩ := sortWorldK_same m dk os; exact (compare_any x.p y.p _ _ _ (x.sl.keep (fun k hk => Nat.lt_of_lt_of_le hk.2.1 h2) (fun k hk => h1 k hk.2)) (y.sl.keep (fun k hk => Nat.lt_of_lt_of_le hk.2.1 h2) (fun k hk => h1 k hk.2))).mono fun _ _ h => ⟨h.1, h.2⟩
theorem pvE_len {w0 : World} {g B : Nat} (x : PV w0 g B) : (pvE x).length = 7 := rfl
theorem pvE_one {w0 : World} {g B : Nat} (x : PV w0 g B) : ∀ v ∈ pvE x, v.oneCell' = true := cCells_one
theorem insOkP (w0 : World) (g B cap n : Nat) (d0 : Array (PV w0 g B)) (R : RowK pvE 7 w0 g 0 d0) (hd : d0.size = n) (hn : n < 60) : InsOk Tryz.prog (pvE (w0 := w0) (g := g) (B := B)) 7 pvC 93 #[] g 0 cap n w0 := by
 intro a b d w hdn S hab hb
 have hcon := AnyQ.insertionSortCmpFunc Tryz.insK 7 Tryz.isAgg49 Tryz.sizeOf49 pvE pvE_len pvE_one pvC 93 #[] g 0 cap a b d w (enters_of Tryz.func93 (by kernel_rfl) rfl) (fun m os dk hdk x y => by
   obtain ⟨m1, os1, e⟩ := S.on R.hblk m dk os hdk; rw [e]
   exact cmpLaysP w0 g B n m1 os1 dk (hdk.trans hdn) x y) (S.holds R.hblk R.hH (by omega)) (S.lt R.hblk) hab (by omega) (by omega)
 rw [hdn] at hcon; refine hcon.mono ?_; rintro e w' ⟨rfl, m, os, rfl⟩; have hp := insertionSort_holds (pvC_cmp w0 g B).swo d a b hab (by omega); exact ⟨rfl, _, hp.1, hp.2, S.on R.hblk m _ os hp.1.1⟩
theorem insP_nil (fv : Value) (cap : Nat) (w : World) : Calls Tryz.prog 141 #[.slice none 0 cap, .int .i64 0, .int .i64 0, fv] w fun e w' => e = .returned (.tuple #[]) ∧ w = w' := by
 go_enter Tryz.func141, Tryz.ntmps141
 go_wp2; refine wp_loop_rounds 1 ?_; rw [rounds_succ]; go_wp2
 go_end0
 exact ⟨rfl, rfl⟩
theorem sortStP_any {e : TypeId} (l : List Chg) (g cap B : Nat) (w : World) (h : OwnS (tChg e) 49 B (fun k => B ≤ k ∧ k < w.heap.size ∧ some k ≠ (Value.slice (some ⟨g, 0, none⟩) l.length cap).ownBlock) w (.slice (some ⟨g, 0, none⟩) l.length cap) l) (hB : B ≤ w.heap.size) (hlen : l.length < 60) :
  Calls Tryz.prog 92 #[.slice (some ⟨g, 0, none⟩) l.length cap, .func (.func 93) #[] #[]] w fun e' w' => e' = .returned (.tuple #[]) ∧ (∃ l' : List Chg, l'.Perm l ∧ (l'.Pairwise fun x y => chgC x y ≤ 0) ∧ SlIs (tChg e) (fun k => B ≤ k ∧ k < w'.heap.size) w' (.slice (some ⟨g, 0, none⟩) l.length cap) l') ∧ Below B w w' := by
 obtain ⟨css, h1, h2⟩ := h
 rcases h1.2 with ⟨q, hz⟩ | ⟨g', cap', cur, q, q1, q2, q3, q4, q5, q6⟩
 · cases q
 injection q with e1 _ e3
 injection e1 with e1
 injection e1 with e1 _
 subst e1; subst e3; have h2' : AllIs (tChg e) (fun k => B ≤ k ∧ k < w.heap.size ∧ k ≠ g) w css l := h2.widen fun k hk => ⟨hk.1, hk.2.1, fun q => hk.2.2 (by rw [q]; rfl)⟩
 obtain ⟨ds, hd1, hd2⟩ := AllIs.pv h2'; have hdl : ds.length = l.length := by rw [← hd1, List.length_map]
 have hH : HoldsK pvE 7 w g 0 ds.toArray := holdsPV q2 (fun k j hk hj => by
  have hfl := h2'.at.2 k (by omega); obtain ⟨cs, c1, c2, c3⟩ := hfl; rw [hd2, List.getElem?_map, List.getElem?_eq_getElem hk] at c1; have hcs : cs = pvE ds[k] := (Option.some.inj c1).symm; rw [List.getD_eq_getElem?_getD, List.getElem?_eq_getElem hk, Option.getD_some, ← hcs, ← c3 j hj, ← q6, List.getElem?_take, if_pos (by show k * 7 + j < l.length * 7; omega), Array.getElem?_toList]
  rfl)
 have R : RowK pvE 7 w g 0 ds.toArray := ⟨pvE_len, pvE_one, hH, lt_of_heap q2⟩; have hcon := sortStable_any stabL pvE pvC (pvC_cmp w g B).swo 93 #[] g 0 cap ds.toArray w (enters_of Tryz.func93 (by kernel_rfl) rfl) (cmpLaysP _ _ _ _) R (insOkP w g B cap _ ds.toArray R rfl (by simpa [hdl] using hlen)) (by simpa [hdl] using hlen); rw [show ds.toArray.size = l.length by simpa using hdl] at hcon; refine hcon.mono ?_; rintro e' w' ⟨rfl, d', hp, hs, hw⟩; have hds : d'.size = ds.toArray.size := by rw [hp.1]
 have hperm : d'.toList.Perm ds := by
  have hp' : PermIn 0 ds.toArray.size ds.toArray d' := by rw [show ds.toArray.size = l.length by simpa using hdl]; exact hp
  simpa using pv_perm hp'
 have hsrt : (d'.toList.map PV.p).Pairwise fun x y => chgC x y ≤ 0 := pv_sorted (d := d') (by rw [hds, show ds.toArray.size = l.length by simpa using hdl]; exact hs)
 have hprm : (d'.toList.map PV.p).Perm l := by
  rw [← hd1]; exact hperm.map _
 have hH2 := hw.holds (lt_of_heap q2) hH hds; have hlt := hw.lt (lt_of_heap q2); obtain ⟨n, os, rfl⟩ := hw; obtain ⟨s1, s2⟩ := sortWorldK_same (w0 := w) (g := g) n d' os; have hdl' : d'.toList.length = l.length := by rw [hperm.length_eq, hdl]
 have := slP_of (e := e) (cap := cap) q1 (ds := d'.toList) (by simpa using hH2) hlt s1 s2 (by rw [hdl']; exact q3) q4; rw [hdl'] at this; exact ⟨rfl, ⟨_, hprm, hsrt, this⟩, sortWorldK_belowP n d' os hB q1⟩
end Go.Proofs.YtifcelebfagjbaaGreatDoor
