/-
  Layer 40 (retain) in plain Lean: why the laws without the reference hold. No program in sight.
-/
import Derived.Test.YtcociikmhfopnaaRetainPure
namespace Go.Tw.Retain
open Go.RowKit

theorem idx_spec {α : Type} {p : α → Bool} : ∀ (l : List α) (s k : Nat), idxP p s l = ((s + k : Nat) : Int) → ∃ h : k < l.length, p l[k] = true ∧ ∀ i (_ : i < k), p (l[i]'(by omega)) = false
  | [], s, k, h => by simp [idxP] at h; omega
  | x :: r, s, k, h => by
    rw [idxP] at h
    by_cases hx : p x = true
    · rw [if_pos hx] at h
      obtain rfl : k = 0 := by omega
      exact ⟨by simp, by simpa using hx, fun i hi => absurd hi (Nat.not_lt_zero _)⟩
    · rw [if_neg hx] at h
      rcases idx_range (p := p) r (s + 1) with q | q
      · rw [q] at h; omega
      · obtain ⟨m, rfl⟩ : ∃ m, k = m + 1 := ⟨k - 1, by omega⟩
        obtain ⟨g1, g2, g3⟩ := idx_spec r (s + 1) m (by rw [h]; omega)
        refine ⟨by simpa using g1, by simpa using g2, fun i hi => ?_⟩
        match i with
        | 0 => simpa using hx
        | i + 1 => simpa using g3 i (by omega)
theorem idx_of {α : Type} {p : α → Bool} : ∀ (l : List α) (s k : Nat) (h : k < l.length), p l[k] = true → (∀ i (_ : i < k), p (l[i]'(by omega)) = false) → idxP p s l = ((s + k : Nat) : Int)
  | x :: r, s, 0, _, h1, _ => by rw [idxP, if_pos (by simpa using h1)]; simp
  | x :: r, s, k + 1, h, h1, h2 => by
    rw [idxP, if_neg (by have := h2 0 (by omega); simpa using this), idx_of r (s + 1) k (by simpa using h) (by simpa using h1) (fun i hi => by have := h2 (i + 1) (by omega); simpa using this)]
    omega
theorem idx_none {α : Type} {p : α → Bool} : ∀ (l : List α) (s : Nat), idxP p s l < 0 → ∀ x ∈ l, p x = false
  | [], _, _, x, hx => by cases hx
  | y :: r, s, h, x, hx => by
    rw [idxP] at h
    by_cases hy : p y = true
    · rw [if_pos hy] at h; omega
    · rw [if_neg hy] at h
      rcases List.mem_cons.1 hx with rfl | hx
      · simpa using hy
      · exact idx_none r (s + 1) h x hx

theorem hold_err {ok : Bool} {ims : List Img} {id reason : ByteArray} (h : (holdC ok ims id reason).2 ≠ 0) : (holdC ok ims id reason).1 = ims := by
  unfold holdC holdAt at *
  split
  · rfl
  · split
    · rfl
    · rename_i h1 h2
      rw [if_neg h1, if_neg h2] at h
      cases e : ims[(idxP (isId id) 0 ims).toNat]? with
      | none => rfl
      | some im =>
        rw [e] at h
        simp only at h ⊢
        split
        · rfl
        · split
          · rfl
          · rename_i q1 q2
            rw [if_neg q1, if_neg q2] at h
            exact absurd rfl h
/-- a hold that succeeds -/
structure HoldOk (ims : List Img) (id reason : ByteArray) (r : List Img) (k : Nat) : Prop where
  lt : k < ims.length
  idx : idxP (isId id) 0 ims = (k : Int)
  new : idxP (isStr reason) 0 (ims[k]'lt).hold < 0
  res : r = ims.set k { ims[k]'lt with hold := (ims[k]'lt).hold ++ [reason] }
theorem hold_ok {ok : Bool} {ims : List Img} {id reason : ByteArray} (h : (holdC ok ims id reason).2 = 0) : ∃ k, HoldOk ims id reason (holdC ok ims id reason).1 k := by
  unfold holdC holdAt at *
  split at h
  · cases h
  · split at h
    · cases h
    · rename_i h1 h2
      rw [if_neg h1, if_neg h2]
      rcases idx_range (p := isId id) ims 0 with q | ⟨q1, q2⟩
      · rw [q] at h2; omega
      · obtain ⟨k, hk⟩ : ∃ k : Nat, idxP (isId id) 0 ims = (k : Int) := ⟨(idxP (isId id) 0 ims).toNat, by omega⟩
        have hlt : k < ims.length := by omega
        rw [hk] at h ⊢
        simp only [Int.toNat_natCast, List.getElem?_eq_getElem hlt] at h ⊢
        split at h
        · cases h
        · split at h
          · cases h
          · rename_i q3 q4
            exact ⟨k, hlt, hk, by omega, by rw [if_neg q3, if_neg q4]⟩
theorem HoldOk.len {ims r : List Img} {id reason : ByteArray} {k : Nat} (h : HoldOk ims id reason r k) : r.length = ims.length := by rw [h.res, List.length_set]
theorem HoldOk.at {ims r : List Img} {id reason : ByteArray} {k : Nat} (h : HoldOk ims id reason r k) : (∃ hk : k < r.length, r[k].id = id ∧ 0 < r[k].hold.length) ∧ ∀ i (hi : i < r.length), i < k → r[i].id ≠ id := by
  obtain ⟨g1, g2, g3⟩ := idx_spec ims 0 k (by rw [h.idx]; simp)
  have hl := h.len
  obtain ⟨h1, h2, h3, rfl⟩ := h
  refine ⟨⟨by simpa using h1, ?_, ?_⟩, fun i hi hik => ?_⟩
  · simpa [isId] using g2
  · simp
  · rw [List.getElem_set_ne (by omega)]
    simpa [isId] using g3 i hik
theorem HoldOk.back {ims r : List Img} {id reason : ByteArray} {k : Nat} (h : HoldOk ims id reason r k) : relC r id reason = (ims, 0) := by
  obtain ⟨⟨hk, e1, _⟩, hne⟩ := h.at
  have hidx : idxP (isId id) 0 r = (k : Int) := by
    have := idx_of (p := isId id) r 0 k hk (by simp [isId, e1]) (fun i hi => by simp [isId]; exact hne i (by omega) hi)
    simpa using this
  obtain ⟨h1, h2, h3, hr⟩ := h
  unfold relC relAt
  rw [hidx, if_neg (by omega)]
  simp only [Int.toNat_natCast, List.getElem?_eq_getElem hk]
  have hrk : r[k] = { ims[k] with hold := ims[k].hold ++ [reason] } := by simp [hr]
  have hi2 : idxP (isStr reason) 0 r[k].hold = (ims[k].hold.length : Int) := by
    rw [hrk]
    have := idx_of (p := isStr reason) (ims[k].hold ++ [reason]) 0 ims[k].hold.length (by simp) (by simp [isStr]) (fun i hi => by
      rw [List.getElem_append_left hi]
      exact idx_none _ _ h3 _ (List.getElem_mem hi))
    simpa using this
  rw [hi2, if_neg (by omega)]
  rw [Prod.mk.injEq]
  refine ⟨?_, rfl⟩
  rw [hrk]
  simp only [Int.toNat_natCast, List.eraseIdx_append_of_length_le (Nat.le_refl _), Nat.sub_self, List.eraseIdx_cons_zero, List.append_nil]
  rw [hr, List.set_set]
  exact List.set_getElem_self h1
theorem until_held {l : List Keep} {im : Img} {c : Int} (h : 0 < im.hold.length) : (untilC l im c).2 ≠ 0 := by
  unfold untilC untilV untilK
  split
  · assumption
  · split
    · simp
    · split
      · simp
      · simp

/-! ### Purge and Next, as filters -/
def okU (u : Int × Int) : Bool := u.2 == 32 || u.2 == 11 || u.2 == 0
def zK (l : List Keep) (t : Int) (p : Img × Int) : Bool := keeps t (untilV l p.1 p.2)
def zOk (l : List Keep) (p : Img × Int) : Bool := okU (untilV l p.1 p.2)
def keptOf (l : List Keep) (t : Int) (z : List (Img × Int)) : List Img := (z.filter (zK l t)).map (·.1)
def goneOf (l : List Keep) (t : Int) (z : List (Img × Int)) : List ByteArray := (z.filter fun p => !zK l t p).map (·.1.id)
theorem purgeGo_ok {l : List Keep} {t : Int} : ∀ {ims : List Img} {cs : List Int} {K : List Img} {G : List ByteArray}, (∀ p ∈ ims.zip cs, zOk l p = true) → purgeGo l t K G ims cs = (K ++ keptOf l t (ims.zip cs), G ++ goneOf l t (ims.zip cs), 0)
  | [], _, K, G, _ => by simp [purgeGo, keptOf, goneOf]
  | _ :: _, [], K, G, _ => by simp [purgeGo, keptOf, goneOf]
  | im :: ims, c :: cs, K, G, h => by
    rw [List.zip_cons_cons] at h ⊢
    have h0 := h (im, c) (by simp)
    have hr : ∀ p ∈ ims.zip cs, zOk l p = true := fun p hp => h p (by simp [hp])
    rw [purgeGo]
    by_cases q : keeps t (untilV l im c) = true
    · have q' : zK l t (im, c) = true := q
      rw [if_pos q, purgeGo_ok hr]
      simp [keptOf, goneOf, q']
    · have q' : zK l t (im, c) = false := by simpa [zK] using q
      have hz : (untilV l im c).2 = 0 := by
        simp only [zOk, okU, Bool.or_eq_true, beq_iff_eq] at h0
        simp only [keeps, Bool.or_eq_true, beq_iff_eq] at q
        omega
      rw [if_neg q, if_pos hz, purgeGo_ok hr]
      simp [keptOf, goneOf, q']
theorem purgeGo_bad {l : List Keep} {t : Int} : ∀ {ims : List Img} {cs : List Int} {K : List Img} {G : List ByteArray}, ¬ (∀ p ∈ ims.zip cs, zOk l p = true) → ∃ e, e ≠ 0 ∧ purgeGo l t K G ims cs = ([], [], e)
  | [], _, K, G, h => absurd (by simp) h
  | _ :: _, [], K, G, h => absurd (by simp) h
  | im :: ims, c :: cs, K, G, h => by
    rw [List.zip_cons_cons] at h
    rw [purgeGo]
    by_cases q : keeps t (untilV l im c) = true
    · rw [if_pos q]
      refine purgeGo_bad fun hr => h fun p hp => ?_
      rcases List.mem_cons.1 hp with rfl | hp
      · simp only [zOk, okU, keeps, Bool.or_eq_true, Bool.and_eq_true, beq_iff_eq] at q ⊢
        omega
      · exact hr p hp
    · rw [if_neg q]
      by_cases hz : (untilV l im c).2 = 0
      · rw [if_pos hz]
        refine purgeGo_bad fun hr => h fun p hp => ?_
        rcases List.mem_cons.1 hp with rfl | hp
        · simp [zOk, okU, hz]
        · exact hr p hp
      · rw [if_neg hz]
        exact ⟨_, hz, rfl⟩
/-- Purge without an error -/
structure PurgeOk (l : List Keep) (ims : List Img) (cs : List Int) : Prop where
  valid : kchkAll l = 0
  len : cs.length = ims.length
  ok : ∀ p ∈ ims.zip cs, zOk l p = true
theorem PurgeOk.res {l : List Keep} {ims : List Img} {cs : List Int} (h : PurgeOk l ims cs) {t : Int} (ht : isT t = true) : purgeC l ims cs t = (keptOf l t (ims.zip cs), goneOf l t (ims.zip cs), 0) := by
  unfold purgeC
  rw [if_neg (by simp [h.valid]), if_neg (by simp [h.len]), if_neg (by simp [ht]), purgeGo_ok h.ok]
  simp
theorem purge_cases (l : List Keep) (ims : List Img) (cs : List Int) (t : Int) : (∃ e, e ≠ 0 ∧ purgeC l ims cs t = ([], [], e)) ∨ (PurgeOk l ims cs ∧ isT t = true) := by
  by_cases h1 : kchkAll l = 0
  case neg => exact .inl ⟨_, h1, by unfold purgeC; rw [if_pos h1]⟩
  by_cases h2 : cs.length = ims.length
  case neg => exact .inl ⟨1, by decide, by unfold purgeC; rw [if_neg (by simp [h1]), if_pos h2]⟩
  by_cases h3 : isT t = true
  case neg => exact .inl ⟨12, by decide, by unfold purgeC; rw [if_neg (by simp [h1]), if_neg (by simp [h2]), if_pos (by simpa using h3)]⟩
  by_cases h4 : ∀ p ∈ ims.zip cs, zOk l p = true
  · exact .inr ⟨⟨h1, h2, h4⟩, h3⟩
  · obtain ⟨e, he, hp⟩ := purgeGo_bad (t := t) (K := []) (G := []) h4
    exact .inl ⟨e, he, by unfold purgeC; rw [if_neg (by simp [h1]), if_neg (by simp [h2]), if_neg (by simp [h3]), hp]⟩
theorem kept_gone_len (l : List Keep) (t : Int) (z : List (Img × Int)) : (keptOf l t z).length + (goneOf l t z).length = z.length := by
  unfold keptOf goneOf
  rw [List.length_map, List.length_map]
  induction z with
  | nil => rfl
  | cons p z ih =>
    by_cases h : zK l t p = true
    · simp [h]; omega
    · simp [h]; omega
theorem zK_mono {l : List Keep} {t x : Int} (h : t ≤ x) {p : Img × Int} (hp : zK l x p = true) : zK l t p = true := by
  simp only [zK, keeps, Bool.or_eq_true, Bool.and_eq_true, beq_iff_eq, decide_eq_true_eq] at hp ⊢
  omega
theorem gone_mono {l : List Keep} {t x : Int} (h : t ≤ x) (z : List (Img × Int)) : (goneOf l t z).length ≤ (goneOf l x z).length := by
  unfold goneOf
  rw [List.length_map, List.length_map]
  induction z with
  | nil => simp
  | cons p z ih =>
    by_cases h1 : zK l t p = true
    · by_cases h2 : zK l x p = true
      · simpa [List.filter_cons, h1, h2] using ih
      · simp [h1, h2]; omega
    · have h2 : ¬ zK l x p = true := fun q => h1 (zK_mono h q)
      simpa [List.filter_cons, h1, h2] using ih
theorem gone_same {l : List Keep} {t x : Int} {z : List (Img × Int)} (h : ∀ p ∈ z, zK l t p = zK l x p) : goneOf l t z = goneOf l x z := by
  unfold goneOf
  congr 1
  exact List.filter_congr fun p hp => by rw [h p hp]
theorem gone_more {l : List Keep} {t x : Int} (h : t ≤ x) : ∀ {z : List (Img × Int)}, (∃ p ∈ z, zK l t p = true ∧ zK l x p = false) → (goneOf l t z).length < (goneOf l x z).length
  | [], ⟨p, hp, _⟩ => by cases hp
  | q :: z, ⟨p, hp, h1, h2⟩ => by
    have key : ∀ (y : Int) (b : Bool), zK l y q = b → (goneOf l y (q :: z)).length = (goneOf l y z).length + if b then 0 else 1 := fun y b hb => by
      unfold goneOf
      rw [List.length_map, List.length_map]
      cases b <;> simp [hb]
    rcases List.mem_cons.1 hp with rfl | hp
    · rw [key t true h1, key x false h2]
      have := gone_mono (l := l) h z
      simp; omega
    · have ih := gone_more h ⟨p, hp, h1, h2⟩
      rw [key t _ rfl, key x _ rfl]
      by_cases q1 : zK l t q = true
      · rw [q1, if_pos rfl]; omega
      · have q2 : zK l x q = false := by
          cases e : zK l x q with
          | false => rfl
          | true => exact absurd (zK_mono h e) q1
        rw [q2, show zK l t q = false by simpa using q1, if_neg Bool.false_ne_true]; omega
/-- the next time: the least one behind t -/
def dueP (l : List Keep) (t : Int) (p : Img × Int) : Prop := (untilV l p.1 p.2).2 = 0 ∧ t < (untilV l p.1 p.2).1
theorem nextGo_spec {l : List Keep} {t : Int} : ∀ {ims : List Img} {cs : List Int} {le : Int} {ok : Bool},
    ((nextGo l t le ok ims cs).2 = false → ok = false ∧ ∀ p ∈ ims.zip cs, ¬ dueP l t p) ∧
    ((nextGo l t le ok ims cs).2 = true → ((ok = true ∧ (nextGo l t le ok ims cs).1 = le) ∨ ∃ p ∈ ims.zip cs, dueP l t p ∧ (untilV l p.1 p.2).1 = (nextGo l t le ok ims cs).1) ∧ (ok = true → (nextGo l t le ok ims cs).1 ≤ le) ∧ ∀ p ∈ ims.zip cs, dueP l t p → (nextGo l t le ok ims cs).1 ≤ (untilV l p.1 p.2).1)
  | [], _, le, ok => by
    simp only [nextGo, List.zip_nil_left]
    exact ⟨fun h => ⟨h, fun p hp => by cases hp⟩, fun h => ⟨.inl ⟨h, trivial⟩, fun _ => Int.le_refl _, fun p hp => by cases hp⟩⟩
  | _ :: _, [], le, ok => by
    simp only [nextGo, List.zip_nil_right]
    exact ⟨fun h => ⟨h, fun p hp => by cases hp⟩, fun h => ⟨.inl ⟨h, trivial⟩, fun _ => Int.le_refl _, fun p hp => by cases hp⟩⟩
  | im :: ims, c :: cs, le, ok => by
    rw [List.zip_cons_cons, nextGo]
    by_cases q : (untilV l im c).2 = 0 ∧ t < (untilV l im c).1 ∧ (ok = false ∨ (untilV l im c).1 < le)
    · rw [if_pos q]
      obtain ⟨ih1, ih2⟩ := nextGo_spec (l := l) (t := t) (ims := ims) (cs := cs) (le := (untilV l im c).1) (ok := true)
      refine ⟨fun h => absurd (ih1 h).1 (by simp), fun h => ?_⟩
      obtain ⟨g1, g2, g3⟩ := ih2 h
      have g2' := g2 rfl
      refine ⟨?_, fun ho => ?_, fun p hp hd => ?_⟩
      · rcases g1 with ⟨_, g1⟩ | ⟨p, hp, hd, he⟩
        · exact .inr ⟨(im, c), by simp, ⟨q.1, q.2.1⟩, g1.symm⟩
        · exact .inr ⟨p, by simp [hp], hd, he⟩
      · rcases q.2.2 with q3 | q3
        · rw [ho] at q3; cases q3
        · omega
      · rcases List.mem_cons.1 hp with rfl | hp
        · exact g2'
        · exact g3 p hp hd
    · rw [if_neg q]
      obtain ⟨ih1, ih2⟩ := nextGo_spec (l := l) (t := t) (ims := ims) (cs := cs) (le := le) (ok := ok)
      refine ⟨fun h => ?_, fun h => ?_⟩
      · obtain ⟨g1, g2⟩ := ih1 h
        refine ⟨g1, fun p hp hd => ?_⟩
        rcases List.mem_cons.1 hp with rfl | hp
        · exact q ⟨hd.1, hd.2, .inl g1⟩
        · exact g2 p hp hd
      · obtain ⟨g1, g2, g3⟩ := ih2 h
        refine ⟨?_, g2, fun p hp hd => ?_⟩
        · rcases g1 with g1 | ⟨p, hp, hd, he⟩
          · exact .inl g1
          · exact .inr ⟨p, by simp [hp], hd, he⟩
        · rcases List.mem_cons.1 hp with rfl | hp
          · cases ok with
            | false => exact absurd ⟨hd.1, hd.2, .inl rfl⟩ q
            | true =>
              have := g2 rfl
              have : ¬ (untilV l im c).1 < le := fun hh => q ⟨hd.1, hd.2, .inr hh⟩
              simp only; omega
          · exact g3 p hp hd
/-- nothing dueP between: the same is purged -/
theorem same_between {l : List Keep} {t x : Int} (h : t ≤ x) {z : List (Img × Int)} (hz : ∀ p ∈ z, dueP l t p → x < (untilV l p.1 p.2).1) : goneOf l t z = goneOf l x z := by
  refine gone_same fun p hp => ?_
  have := hz p hp
  rw [Bool.eq_iff_iff]
  simp only [zK, keeps, Bool.or_eq_true, Bool.and_eq_true, beq_iff_eq, decide_eq_true_eq]
  unfold dueP at this
  omega
theorem more_at {l : List Keep} {t x : Int} {z : List (Img × Int)} (hz : ∃ p ∈ z, dueP l t p ∧ (untilV l p.1 p.2).1 = x) : t < x ∧ (goneOf l t z).length < (goneOf l x z).length := by
  obtain ⟨p, hp, hd, he⟩ := hz
  have hlt : t < x := by have := hd.2; omega
  refine ⟨hlt, gone_more (by omega) ⟨p, hp, ?_, ?_⟩⟩
  · simp only [zK, keeps, Bool.or_eq_true, Bool.and_eq_true, beq_iff_eq, decide_eq_true_eq]
    exact .inr ⟨hd.1, hd.2⟩
  · simp only [zK, keeps, hd.1, he]
    simp
theorem PurgeOk.next {l : List Keep} {ims : List Img} {cs : List Int} (h : PurgeOk l ims cs) (t : Int) : nextC l ims cs t = nextGo l t 0 false ims cs := by
  unfold nextC
  rw [if_neg (by simp [h.valid, h.len])]
theorem mid {α : Type} {z : List α} {i : Nat} (hi : i < z.length) : z = z.take i ++ z[i] :: z.drop (i + 1) := by rw [← List.drop_eq_getElem_cons hi, List.take_append_drop]
theorem filter_mid {α : Type} {p : α → Bool} {z : List α} {i : Nat} (hi : i < z.length) (h : p z[i] = true) : z.filter p = (z.take i).filter p ++ z[i] :: (z.drop (i + 1)).filter p := by
  have := congrArg (List.filter p) (mid hi)
  rw [List.filter_append, List.filter_cons, if_pos h] at this
  exact this
theorem filter_yes {α : Type} {p : α → Bool} {z : List α} {i : Nat} (hi : i < z.length) (h : p z[i] = true) : (z.take (i + 1)).filter p = (z.take i).filter p ++ [z[i]] := by
  rw [List.take_succ_eq_append_getElem hi, List.filter_append, List.filter_cons, if_pos h, List.filter_nil]
theorem filter_no {α : Type} {p : α → Bool} {z : List α} {i : Nat} (hi : i < z.length) (h : p z[i] = false) : (z.take (i + 1)).filter p = (z.take i).filter p := by
  rw [List.take_succ_eq_append_getElem hi, List.filter_append, List.filter_cons, if_neg (by simp [h]), List.filter_nil, List.append_nil]
/-- at index i -/
theorem keptOf_at {l : List Keep} {t : Int} {z : List (Img × Int)} {i : Nat} (hi : i < z.length) (hk : zK l t z[i] = true) : ∃ h : (keptOf l t (z.take i)).length < (keptOf l t z).length, (keptOf l t z)[(keptOf l t (z.take i)).length] = z[i].1 ∧ (keptOf l t (z.take (i + 1))).length = (keptOf l t (z.take i)).length + 1 ∧ (goneOf l t (z.take (i + 1))).length = (goneOf l t (z.take i)).length := by
  have e : keptOf l t z = keptOf l t (z.take i) ++ z[i].1 :: keptOf l t (z.drop (i + 1)) := by
    unfold keptOf
    rw [filter_mid hi hk, List.map_append, List.map_cons]
  refine ⟨by rw [e]; simp, ?_, ?_, ?_⟩
  · simp only [e]
    rw [List.getElem_append_right (Nat.le_refl _)]
    simp only [Nat.sub_self, List.getElem_cons_zero]
  · unfold keptOf
    rw [filter_yes hi hk, List.map_append, List.length_append]; rfl
  · unfold goneOf
    rw [filter_no hi (by simp [hk])]
theorem goneOf_at {l : List Keep} {t : Int} {z : List (Img × Int)} {i : Nat} (hi : i < z.length) (hk : zK l t z[i] = false) : ∃ h : (goneOf l t (z.take i)).length < (goneOf l t z).length, (goneOf l t z)[(goneOf l t (z.take i)).length] = z[i].1.id ∧ (goneOf l t (z.take (i + 1))).length = (goneOf l t (z.take i)).length + 1 ∧ (keptOf l t (z.take (i + 1))).length = (keptOf l t (z.take i)).length := by
  have hn : (!zK l t z[i]) = true := by simp [hk]
  have e : goneOf l t z = goneOf l t (z.take i) ++ z[i].1.id :: goneOf l t (z.drop (i + 1)) := by
    unfold goneOf
    rw [filter_mid hi hn, List.map_append, List.map_cons]
  refine ⟨by rw [e]; simp, ?_, ?_, ?_⟩
  · simp only [e]
    rw [List.getElem_append_right (Nat.le_refl _)]
    simp only [Nat.sub_self, List.getElem_cons_zero]
  · unfold goneOf
    rw [filter_yes hi hn, List.map_append, List.length_append]; rfl
  · unfold keptOf
    rw [filter_no hi hk]
/-- what is purged is neither held nor open -/
theorem until_free {l : List Keep} {im : Img} {c : Int} (h : (untilV l im c).2 = 0) : im.hold.length = 0 ∧ 0 ≤ c := by
  unfold untilV untilK at h
  split at h
  · cases h
  · rename_i q
    split at h
    · cases h
    · split at h
      · cases h
      · split at h
        · cases h
        · refine ⟨by omega, ?_⟩
          simp only [not_or, not_and, isT] at q
          have := q.2 (by assumption)
          simp at this
          omega
end Go.Tw.Retain
