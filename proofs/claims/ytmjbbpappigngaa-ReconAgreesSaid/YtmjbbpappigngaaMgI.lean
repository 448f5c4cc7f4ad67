/-
  Layer 44 (recon): the walk of the reference's amounts.
-/
import Derived.Test.YtmjbbpappigngaaRecoC
import Derived.Sort.Walk0
import Derived.Test.YtmjbbpappigngaaMgJ
import Derived.Test.YtmjbbpappigngaaExcClmR
namespace Go.Tw.Exc
open Go.RowKit Go.Tw
/-- where a key belongs -/
def posK : List ByteArray → ByteArray → Nat
  | [], _ => 0
  | y :: L, x => if kb y < kb x then posK L x + 1 else 0
def insK (L : List ByteArray) (x : ByteArray) : List ByteArray := if L[posK L x]? = some x then L else L.take (posK L x) ++ x :: L.drop (posK L x)
def insAll (l : List Rec) : List ByteArray := l.foldl (fun L r => insK L r.key) []
theorem insAll_snoc (l : List Rec) (x : Rec) : insAll (l ++ [x]) = insK (insAll l) x.key := by unfold insAll; rw [List.foldl_append]; rfl
theorem posK_le : ∀ (L : List ByteArray) (x : ByteArray), posK L x ≤ L.length
  | [], _ => Nat.le_refl _
  | y :: L, x => by
    unfold posK
    split
    · have := posK_le L x; simp; omega
    · exact Nat.zero_le _
theorem posK_lt : ∀ {L : List ByteArray} {x : ByteArray} {t : Nat}, t < posK L x → ∀ ht : t < L.length, kb L[t] < kb x
  | [], _, _, _, ht => absurd ht (Nat.not_lt_zero _)
  | y :: L, x, 0, h, _ => by
    unfold posK at h
    split at h
    · rename_i q; exact q
    · exact absurd h (Nat.not_lt_zero _)
  | y :: L, x, t + 1, h, ht => by
    unfold posK at h
    split at h
    · simpa using posK_lt (L := L) (x := x) (t := t) (by omega) (by simpa using ht)
    · omega
theorem posK_at : ∀ {L : List ByteArray} {x : ByteArray} (h : posK L x < L.length), ¬ kb L[posK L x] < kb x
  | [], _, h => absurd h (Nat.not_lt_zero _)
  | y :: L, x, h => by
    by_cases q : kb y < kb x
    · have e : posK (y :: L) x = posK L x + 1 := by rw [posK, if_pos q]
      have h' : posK L x < L.length := by rw [e] at h; simpa using h
      have := posK_at h'
      simp only [e, List.getElem_cons_succ]
      exact this
    · have e : posK (y :: L) x = 0 := by rw [posK, if_neg q]
      simp only [e, List.getElem_cons_zero]
      exact q
end Go.Tw.Exc
namespace Go.Proofs.Ytmjbbpappigngaa
open Go.RowKit Go.Tw Go.Tw.Exc
theorem less_kb (a b : ByteArray) : Op.bytesLess a.toList b.toList = decide (kb a < kb b) := by
  rw [bytesLess_eq, ByteArray.toList_eq, ByteArray.toList_eq]
  rfl
theorem sl_emptyF {α : Type} {T : Ty α} {S S' : Nat → Prop} {w w' : World} {v : Value} (h : SlIs T S w v []) : SlIs T S' w' v [] := by
  obtain ⟨ao, cap, b, off, hv, h1, h2, h3, h4⟩ := h
  exact ⟨ao, cap, b, off, hv, h1, h2, h3, fun k hk => absurd hk (Nat.not_lt_zero _)⟩
theorem add_offF (b o j : Nat) : (⟨b, o, none⟩ : Addr).add j = ⟨b, o + j, none⟩ := by
  unfold Addr.add
  split
  · rename_i h
    have h0 : j = 0 := by simpa using h
    subst h0
    rfl
  · rfl
end Go.Proofs.Ytmjbbpappigngaa
/-
  Layer 44 (recon) in plain Lean: insertion gives the keys in their order.
-/
namespace Go.Tw.Exc
open Go.RowKit Go.Tw
theorem insK_nil (x : ByteArray) : insK [] x = [x] := rfl
theorem insK_cons (y : ByteArray) (L : List ByteArray) (x : ByteArray) : insK (y :: L) x = if kb y < kb x then y :: insK L x else if y = x then y :: L else x :: y :: L := by
  by_cases h : kb y < kb x
  · have e : posK (y :: L) x = posK L x + 1 := by rw [posK, if_pos h]
    unfold insK
    rw [e, if_pos h, List.getElem?_cons_succ, List.take_succ_cons, List.drop_succ_cons]
    split
    · rfl
    · rfl
  · have e : posK (y :: L) x = 0 := by rw [posK, if_neg h]
    unfold insK
    rw [e, if_neg h, List.getElem?_cons_zero, List.take_zero, List.drop_zero]
    by_cases q : y = x
    · rw [if_pos (by rw [q]), if_pos q]
    · rw [if_neg (by intro w; injection w with w; exact q w), if_neg q]; rfl
theorem insK_mem : ∀ (L : List ByteArray) (x z : ByteArray), z ∈ insK L x ↔ z ∈ L ∨ z = x
  | [], x, z => by rw [insK_nil]; simp
  | y :: L, x, z => by
    rw [insK_cons]
    split
    · rw [List.mem_cons, insK_mem L x z, List.mem_cons]
      constructor
      · rintro (q | q | q)
        · exact .inl (.inl q)
        · exact .inl (.inr q)
        · exact .inr q
      · rintro ((q | q) | q)
        · exact .inl q
        · exact .inr (.inl q)
        · exact .inr (.inr q)
    · split
      · rename_i q
        subst q
        rw [List.mem_cons]
        constructor
        · exact .inl
        · rintro (q | q)
          · exact q
          · exact .inl q
      · simp only [List.mem_cons]
        constructor
        · rintro (q | q | q)
          · exact .inr q
          · exact .inl (.inl q)
          · exact .inl (.inr q)
        · rintro ((q | q) | q)
          · exact .inr (.inl q)
          · exact .inr (.inr q)
          · exact .inl q
def Srt (L : List ByteArray) : Prop := L.Pairwise fun a b => kb a < kb b
theorem kb_gt {a b : ByteArray} (h : ¬ kb a < kb b) (hne : a ≠ b) : kb b < kb a := by
  refine Classical.byContradiction fun q => hne (kb_inj ?_)
  exact List.le_antisymm (q : kb a ≤ kb b) (h : kb b ≤ kb a)
theorem insK_srt : ∀ {L : List ByteArray} (x : ByteArray), Srt L → Srt (insK L x)
  | [], x, _ => by rw [insK_nil]; exact List.pairwise_singleton _ _
  | y :: L, x, h => by
    have h' := List.pairwise_cons.1 h
    rw [insK_cons]
    split
    · rename_i q
      refine List.pairwise_cons.2 ⟨fun z hz => ?_, insK_srt x h'.2⟩
      rcases (insK_mem L x z).1 hz with w | w
      · exact h'.1 z w
      · rw [w]; exact q
    · rename_i q
      split
      · exact h
      · rename_i q2
        have hx := kb_gt q q2
        refine List.pairwise_cons.2 ⟨fun z hz => ?_, h⟩
        rcases List.mem_cons.1 hz with w | w
        · rw [w]; exact hx
        · exact List.lt_trans hx (h'.1 z w)
theorem insAll_spec (l : List Rec) : Srt (insAll l) ∧ ∀ y, y ∈ insAll l ↔ ∃ r ∈ l, r.key = y := by
  refine snocInd (p := fun l => Srt (insAll l) ∧ ∀ y, y ∈ insAll l ↔ ∃ r ∈ l, r.key = y) ⟨List.Pairwise.nil, fun y => by simp [insAll]⟩ ?_ l
  rintro l x ⟨h1, h2⟩
  rw [insAll_snoc]
  refine ⟨insK_srt _ h1, fun y => ?_⟩
  rw [insK_mem, h2]
  constructor
  · rintro (⟨r, hr, e⟩ | e)
    · exact ⟨r, by simp [hr], e⟩
    · exact ⟨x, by simp, e.symm⟩
  · rintro ⟨r, hr, e⟩
    rcases List.mem_append.1 hr with hr | hr
    · exact .inl ⟨r, hr, e⟩
    · rw [List.mem_singleton.1 hr] at e
      exact .inr e.symm
theorem keysU_srt (la lb : List Rec) : Srt (keysU la lb) := by
  have tr : ∀ a b c : List UInt8, leB a b = true → leB b c = true → leB a c = true := fun a b c h1 h2 => by simp only [leB, decide_eq_true_eq] at *; exact List.le_trans h1 h2
  have tot : ∀ a b : List UInt8, (leB a b || leB b a) = true := fun a b => by simp only [leB, Bool.or_eq_true, decide_eq_true_eq]; exact List.le_total a b
  have h1 := List.pairwise_mergeSort tr tot ((fkeys (la ++ lb)).map kb)
  have h2 : (((fkeys (la ++ lb)).map kb).mergeSort leB).Nodup := (List.mergeSort_perm _ _).nodup_iff.2 (by
    rw [List.Nodup, List.pairwise_map]
    exact (fkeys_nodup (la ++ lb)).imp fun hne e => hne (kb_inj e))
  rw [← keysU_kb] at h1 h2
  rw [List.Nodup, List.pairwise_map] at h2
  rw [List.pairwise_map] at h1
  refine (h1.and h2).imp fun {a b} h => ?_
  obtain ⟨q1, q2⟩ := h
  simp only [leB, decide_eq_true_eq] at q1
  refine Classical.byContradiction fun w => q2 ?_
  exact List.le_antisymm q1 (w : kb b ≤ kb a)
theorem keysU_mem_iff (la lb : List Rec) (s : ByteArray) : s ∈ keysU la lb ↔ ∃ r ∈ la ++ lb, r.key = s := by
  rw [← fkeys_mem]
  unfold keysU
  rw [List.mem_map]
  constructor
  · rintro ⟨x, hx, rfl⟩
    rw [List.mem_mergeSort] at hx
    obtain ⟨t, ht, rfl⟩ := List.mem_map.1 hx
    rw [ofB_kb]; exact ht
  · intro h
    exact ⟨kb s, List.mem_mergeSort.2 (List.mem_map.2 ⟨s, h, rfl⟩), ofB_kb s⟩
theorem srt_nodup {L : List ByteArray} (h : Srt L) : L.Nodup := h.imp fun {a b} q e => by rw [e] at q; exact List.lt_irrefl _ q
theorem insAll_keys (la lb : List Rec) : insAll (la ++ lb) = keysU la lb := by
  obtain ⟨h1, h2⟩ := insAll_spec (la ++ lb)
  have hp : (insAll (la ++ lb)).Perm (keysU la lb) := (List.perm_ext_iff_of_nodup (srt_nodup h1) (srt_nodup (keysU_srt la lb))).2 fun y => by rw [h2, keysU_mem_iff]
  refine List.Perm.eq_of_pairwise (le := fun a b => kb a < kb b) (fun a b _ _ q1 q2 => ?_) h1 (keysU_srt la lb) hp
  exact absurd (List.lt_trans q1 q2) (List.lt_irrefl _)
end Go.Tw.Exc
/-
  Layer 44 (recon): the walks of the reference's Differ and Agree.
-/
namespace Go.Proofs.Ytmjbbpappigngaa
open Go.RowKit Go.Tw Go.Tw.Exc
end Go.Proofs.Ytmjbbpappigngaa
/-
  Layer 44 (recon): the walks of the reference's Agree, of the law's records and small.
-/
namespace Go.Proofs.Ytmjbbpappigngaa
open Go.RowKit Go.Tw Go.Tw.Exc
def SmE (P : Prop) (e : Ending) : Prop := ∃ b, e = .returned (.bool b) ∧ (b = true → P)
set_option maxRecDepth 100000 in
set_option maxHeartbeats 4000000 in
theorem records_any (l : List Rec) (v : Value) (w : World) (h : SlIs tRec (· < w.heap.size) w v l) :
    Calls Try.prog 9 #[v] w fun e w' => SmE (Small44 l) e ∧ Below w.heap.size w w' := by
  obtain ⟨ao, cp, bb, off, rfl, hl1, hl2, ho⟩ := rec_open h
  unfold maxLen at hl2
  have HL := Lib.hid ho
  clear h ho
  go_enter Try.func9, Try.ntmps9
  go_wp2_with (fail)
  go_loopg [3] l.length (fun g i wr => ∃ k : Nat, k + g = l.length ∧ i = .int .i64 k ∧ Hid (∀ j (_ : j < k) (h : j < l.length), -1125899906842624 ≤ l[j].c ∧ l[j].c ≤ 1125899906842624) ∧ Below w.heap.size w wr)
  case atStart => exact ⟨0, by omega, rfl, Lib.hid (fun j h => absurd h (Nat.not_lt_zero _)), Below.refl _ _⟩
  case round =>
    obtain ⟨k, hk, rfl, HI, hb⟩ := hrel
    have HB := Lib.hid hb
    clear hb
    by_cases hlt : k < l.length
    · obtain ⟨rfl, -, -, hok, d0, d1, d2, d3, d4⟩ := HL.out wr (.of_below HB.out) k hlt
      have HX := Lib.hid (show (-1125899906842624 ≤ l[k].c ∧ l[k].c ≤ 1125899906842624) → ∀ j (_ : j < k + 1) (h : j < l.length), -1125899906842624 ≤ l[j].c ∧ l[j].c ≤ 1125899906842624 from fun hx j h1 h2 => by
        by_cases e : j = k
        · subst e; exact hx
        · exact HI.out j (by omega) h2)
      obtain ⟨x, hx⟩ : ∃ x, l[k] = x := ⟨_, rfl⟩
      rw [hx] at d0 d1 d2 d3 d4 HX
      have k0 : (0 : Int) ≤ (k : Int) := by omega
      have k1 : (k : Int) < (l.length : Int) := by omega
      clear hx hok
      by_cases h1 : 1099511627776 < x.c
      · go_wp2_with (fail)
        go_ret
        exact ⟨⟨false, rfl, fun h => by cases h⟩, HB.out⟩
      by_cases h2 : x.c < -1099511627776
      · go_wp2_with (fail)
        go_ret
        exact ⟨⟨false, rfl, fun h => by cases h⟩, HB.out⟩
      have HN := Lib.hid (HX.out ⟨by omega, by omega⟩)
      by_cases h3 : 20 < x.key.size
      · have h3' : (20 : Int) < (x.key.size : Int) := by omega
        go_wp2_with (fail)
        go_ret
        exact ⟨⟨false, rfl, fun h => by cases h⟩, HB.out⟩
      have h3' : ¬ (20 : Int) < (x.key.size : Int) := by omega
      go_wp2_with (fail)
      go_roundg (l.length - (k + 1))
      case measure => omega
      case rel => exact ⟨k + 1, by omega, by go_num, HN, HB.out⟩
    · obtain rfl : k = l.length := by omega
      have hkd : decide ((l.length : Int) < (l.length : Int)) = false := by simp
      have HC := Lib.hid (show ∀ r ∈ l, -1125899906842624 ≤ r.c ∧ r.c ≤ 1125899906842624 from fun r hr => by
        obtain ⟨j, hj, rfl⟩ := List.getElem_of_mem hr
        exact HI.out j hj hj)
      clear hlt hk
      by_cases h4 : l.length ≤ 40
      · have h4' : (l.length : Int) ≤ 40 := by omega
        go_wp2_with (fail)
        go_ret
        exact ⟨⟨true, by first | rfl | (exact ret_bool (by simp; omega)), fun _ => ⟨by omega, HC.out⟩⟩, HB.out⟩
      · have h4' : ¬ (l.length : Int) ≤ 40 := by omega
        go_wp2_with (fail)
        go_ret
        exact ⟨⟨false, by first | rfl | (exact ret_bool (by simp; omega)), fun h => by cases h⟩, HB.out⟩
end Go.Proofs.Ytmjbbpappigngaa
