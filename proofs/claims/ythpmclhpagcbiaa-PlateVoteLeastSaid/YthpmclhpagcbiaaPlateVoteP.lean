/-
  Layer 10 (plate) in plain Lean: what Near and Vote compute, each answer alone.
-/
import Derived.Test.YthpmclhpagcbiaaPlateNearP
import Derived.Test.YthpmclhpagcbiaaPlateLaw
namespace Go.Tw.Plate
open Go.RowKit Go.Sort

/-! ### Near -/
/-- out: the plates of L within the distance, each once -/
def NearSet (s : ByteArray) (most : Int) (L out : List ByteArray) : Prop := out.Nodup ∧ ∀ x, x ∈ out ↔ x ∈ L ∧ distS x s ≤ most
/-- .. in their order -/
def NearOf (s : ByteArray) (most : Int) (L out : List ByteArray) : Prop := NearSet s most L out ∧ out.Pairwise (fun x y => nearLt s y x = false)
theorem NearSet.start (s : ByteArray) (most : Int) : NearSet s most [] [] := ⟨List.nodup_nil, by simp⟩
theorem NearSet.old {s p : ByteArray} {most : Int} {L out : List ByteArray} (h : NearSet s most L out) (hp : p ∈ L) : NearSet s most (L ++ [p]) out := by
  refine ⟨h.1, fun x => (h.2 x).trans ⟨fun q => ⟨by simp [q.1], q.2⟩, fun q => ⟨?_, q.2⟩⟩⟩
  rcases List.mem_append.1 q.1 with q | q
  · exact q
  · rw [List.mem_singleton.1 q]; exact hp
theorem NearSet.far {s p : ByteArray} {most : Int} {L out : List ByteArray} (h : NearSet s most L out) (hp : ¬ distS p s ≤ most) : NearSet s most (L ++ [p]) out := by
  refine ⟨h.1, fun x => (h.2 x).trans ⟨fun q => ⟨by simp [q.1], q.2⟩, fun q => ⟨?_, q.2⟩⟩⟩
  rcases List.mem_append.1 q.1 with r | r
  · exact r
  · rw [List.mem_singleton.1 r] at q; exact absurd q.2 hp
theorem NearSet.had {s p : ByteArray} {most : Int} {L out : List ByteArray} (h : NearSet s most L out) (hp : p ∈ out) : NearSet s most (L ++ [p]) out := h.old ((h.2 p).1 hp).1
theorem NearSet.mem {s : ByteArray} {most : Int} {L out out' : List ByteArray} (h : NearSet s most L out) (hp : out'.Nodup) (hm : ∀ x, x ∈ out' ↔ x ∈ out) : NearSet s most L out' := ⟨hp, fun x => (hm x).trans (h.2 x)⟩
theorem NearSet.new {s p : ByteArray} {most : Int} {L out : List ByteArray} (h : NearSet s most L out) (hp : p ∉ out) (hd : distS p s ≤ most) : NearSet s most (L ++ [p]) (out ++ [p]) := by
  refine ⟨List.nodup_append.2 ⟨h.1, by simp, fun a ha b hb e => ?_⟩, fun x => ?_⟩
  · rw [List.mem_singleton.1 hb] at e; subst e; exact hp ha
  · rw [List.mem_append, List.mem_append, h.2 x, List.mem_singleton]
    constructor
    · rintro (q | rfl)
      · exact ⟨.inl q.1, q.2⟩
      · exact ⟨.inr rfl, hd⟩
    · rintro ⟨q | q, r⟩
      · exact .inl ⟨q, r⟩
      · exact .inr q
theorem NearOf.uniq {s : ByteArray} {most : Int} {L a b : List ByteArray} (ha : NearOf s most L a) (hb : NearOf s most L b) : a = b :=
  near_one s ((List.perm_ext_iff_of_nodup ha.1.1 hb.1.1).2 fun x => (ha.1.2 x).trans (hb.1.2 x).symm) ha.2 hb.2
theorem nearLt_irrefl (s x : ByteArray) : nearLt s x x = false := by unfold nearLt; rw [ltL_irrefl]; simp
theorem nearLt_trans {s x y z : ByteArray} (h1 : nearLt s x y = true) (h2 : nearLt s y z = true) : nearLt s x z = true := by
  unfold nearLt at *
  simp only [Bool.or_eq_true, decide_eq_true_eq, Bool.and_eq_true] at *
  rcases h1 with h1 | ⟨h1, h1'⟩ <;> rcases h2 with h2 | ⟨h2, h2'⟩
  · exact .inl (by omega)
  · exact .inl (by omega)
  · exact .inl (by omega)
  · exact .inr ⟨by omega, ltL_trans _ _ _ h1' h2'⟩
/-- one more at its place -/
theorem NearOf.ins {s p : ByteArray} {most : Int} {L out : List ByteArray} {t : Nat} (h : NearOf s most L out) (hp : p ∉ out) (hd : distS p s ≤ most)
    (h2 : t = 0 ∨ ∃ q : t - 1 < out.length, nearLt s out[t - 1] p = true) (h3 : ∀ j (hj : j < out.length), t ≤ j → nearLt s out[j] p = false) : NearOf s most (L ++ [p]) (out.take t ++ [p] ++ out.drop t) := by
  have hpw := h.2
  have hsp : out = out.take t ++ out.drop t := (List.take_append_drop t out).symm
  have hcr := List.pairwise_append.1 (by rw [hsp] at hpw; exact hpw)
  have hnd := h.1.1
  have hnc := List.nodup_append.1 (by rw [hsp] at hnd; exact hnd)
  have hmt : ∀ x, x ∈ out.take t → x ∈ out := fun x hx => List.mem_of_mem_take hx
  have hmd : ∀ x, x ∈ out.drop t → x ∈ out := fun x hx => List.mem_of_mem_drop hx
  refine ⟨(h.1.new hp hd).mem ?_ fun x => ?_, ?_⟩
  · rw [List.append_assoc]
    refine List.nodup_append.2 ⟨hnc.1, ?_, ?_⟩
    · rw [List.singleton_append]
      exact List.nodup_cons.2 ⟨fun q => hp (hmd _ q), hnc.2.1⟩
    · intro a ha b hb e
      subst e
      rcases List.mem_append.1 hb with q | q
      · rw [List.mem_singleton.1 q] at ha; exact hp (hmt _ ha)
      · exact hnc.2.2 a ha a q rfl
  · have e : x ∈ out ↔ x ∈ out.take t ∨ x ∈ out.drop t := by conv => lhs; rw [hsp]
                                                             exact List.mem_append
    simp only [List.mem_append, e]
    constructor
    · rintro ((q | q) | q)
      · exact .inl (.inl q)
      · exact .inr q
      · exact .inl (.inr q)
    · rintro ((q | q) | q)
      · exact .inl (.inl q)
      · exact .inr q
      · exact .inl (.inr q)
  · rw [List.append_assoc, List.singleton_append]
    refine List.pairwise_append.2 ⟨hcr.1, List.pairwise_cons.2 ⟨fun y hy => ?_, hcr.2.1⟩, fun x hx y hy => ?_⟩
    · obtain ⟨j, hj, rfl⟩ := List.mem_drop_iff_getElem.1 hy
      exact h3 _ _ (by omega)
    · rcases List.mem_cons.1 hy with rfl | hy
      · obtain ⟨i, hi, rfl⟩ := List.mem_take_iff_getElem.1 hx
        rcases h2 with rfl | ⟨q, h2⟩
        · omega
        · cases hc : nearLt s y out[i]
          · rfl
          · have h4 := nearLt_trans h2 hc
            rcases Nat.lt_or_ge i (t - 1) with g | g
            · have := List.pairwise_iff_getElem.1 hpw i (t - 1) (by omega) q g
              rw [this] at h4; cases h4
            · obtain rfl : i = t - 1 := by omega
              rw [nearLt_irrefl] at h4; cases h4
      · exact hcr.2.2 x hx y hy

/-! ### Vote -/
theorem clampW_range (n : Int) : 0 ≤ clampW n ∧ clampW n ≤ 1000 := by unfold clampW; split <;> omega
theorem distS_range (a b : ByteArray) : 0 ≤ distS a b ∧ distS a b ≤ 96 := by
  have h := dist_range (cutS a) (cutS b)
  have h1 := cutS_len a
  have h2 := cutS_len b
  unfold distS
  omega
/-- the weight of a reading: of all its places -/
def wsum : List ByteArray → List Int → ByteArray → Int
  | r :: rs, w :: ws, x => (if x = r then clampW w else 0) + wsum rs ws x
  | _, _, _ => 0
/-- the weighted distance to all readings -/
def vsum : List ByteArray → List Int → ByteArray → Int
  | r :: rs, w :: ws, x => clampW w * distS x r + vsum rs ws x
  | _, _, _ => 0
theorem wsum_snoc : ∀ (rs : List ByteArray) (ws : List Int) (r : ByteArray) (w : Int) (x : ByteArray), rs.length = ws.length → wsum (rs ++ [r]) (ws ++ [w]) x = wsum rs ws x + if x = r then clampW w else 0
  | [], [], r, w, x, _ => by simp [wsum]
  | a :: rs, b :: ws, r, w, x, h => by
    rw [List.cons_append, List.cons_append, wsum, wsum, wsum_snoc rs ws r w x (by simpa using h)]
    omega
  | [], _ :: _, _, _, _, h => by simp at h
  | _ :: _, [], _, _, _, h => by simp at h
theorem vsum_snoc : ∀ (rs : List ByteArray) (ws : List Int) (r : ByteArray) (w : Int) (x : ByteArray), rs.length = ws.length → vsum (rs ++ [r]) (ws ++ [w]) x = vsum rs ws x + clampW w * distS x r
  | [], [], r, w, x, _ => by simp [vsum]
  | a :: rs, b :: ws, r, w, x, h => by
    rw [List.cons_append, List.cons_append, vsum, vsum, vsum_snoc rs ws r w x (by simpa using h)]
    omega
  | [], _ :: _, _, _, _, h => by simp at h
  | _ :: _, [], _, _, _, h => by simp at h
theorem wsum_range : ∀ (rs : List ByteArray) (ws : List Int) (x : ByteArray), 0 ≤ wsum rs ws x ∧ wsum rs ws x ≤ 1000 * rs.length
  | [], _, x => by simp [wsum]
  | r :: rs, [], x => by simp [wsum]; omega
  | r :: rs, w :: ws, x => by
    have h := wsum_range rs ws x
    have := clampW_range w
    rw [wsum, List.length_cons]
    split <;> omega
theorem wsum_none : ∀ (rs : List ByteArray) (ws : List Int) (x : ByteArray), x ∉ rs → wsum rs ws x = 0
  | [], _, x, _ => by simp [wsum]
  | r :: rs, [], x, _ => by simp [wsum]
  | r :: rs, w :: ws, x, h => by
    simp at h
    rw [wsum, wsum_none rs ws x h.2, if_neg h.1]; rfl
theorem vsum_range : ∀ (rs : List ByteArray) (ws : List Int) (x : ByteArray), 0 ≤ vsum rs ws x ∧ vsum rs ws x ≤ 96000 * rs.length
  | [], _, x => by simp [vsum]
  | r :: rs, [], x => by simp [vsum]; omega
  | r :: rs, w :: ws, x => by
    have h := vsum_range rs ws x
    have h1 := clampW_range w
    have h2 := distS_range x r
    have h3 : 0 ≤ clampW w * distS x r := Int.mul_nonneg h1.1 h2.1
    have h4 : clampW w * distS x r ≤ 1000 * 96 := Int.mul_le_mul h1.2 h2.2 h2.1 (by omega)
    rw [vsum, List.length_cons]
    omega
/-- the sum over different plates -/
def psum (W : ByteArray → Int) (x : ByteArray) : List ByteArray → Int
  | [] => 0
  | p :: l => W p * distS x p + psum W x l
theorem psum_snoc (W : ByteArray → Int) (x p : ByteArray) : ∀ l : List ByteArray, psum W x (l ++ [p]) = psum W x l + W p * distS x p
  | [] => by simp [psum]
  | q :: l => by rw [List.cons_append, psum, psum, psum_snoc W x p l]; omega
theorem psum_add (W V : ByteArray → Int) (x : ByteArray) : ∀ l : List ByteArray, psum (fun p => W p + V p) x l = psum W x l + psum V x l
  | [] => rfl
  | q :: l => by rw [psum, psum, psum, psum_add W V x l, Int.add_mul]; omega
theorem psum_one (c : Int) (r x : ByteArray) : ∀ l : List ByteArray, l.Nodup → psum (fun p => if p = r then c else 0) x l = if r ∈ l then c * distS x r else 0
  | [], _ => by simp [psum]
  | q :: l, h => by
    rw [List.nodup_cons] at h
    rw [psum, psum_one c r x l h.2]
    by_cases e : q = r
    · subst e
      rw [if_pos rfl, if_neg h.1, if_pos (by simp)]; omega
    · rw [if_neg e]
      by_cases g : r ∈ l
      · rw [if_pos g, if_pos (by simp [g])]; omega
      · rw [if_neg g, if_neg (by simp only [List.mem_cons, not_or]; exact ⟨fun q => e q.symm, g⟩)]; omega
theorem psum_all : ∀ (rs : List ByteArray) (ws : List Int) (x : ByteArray) (l : List ByteArray), l.Nodup → (∀ r ∈ rs, r ∈ l) → psum (wsum rs ws) x l = vsum rs ws x
  | [], ws, x, l, _, _ => by
    have : ∀ l : List ByteArray, psum (wsum [] ws) x l = 0 := fun l => by
      induction l with
      | nil => rfl
      | cons q l ih => rw [psum, ih]; simp [wsum]
    rw [this]; simp [vsum]
  | r :: rs, [], x, l, _, _ => by
    have : ∀ l : List ByteArray, psum (wsum (r :: rs) []) x l = 0 := fun l => by
      induction l with
      | nil => rfl
      | cons q l ih => rw [psum, ih]; simp [wsum]
    rw [this]; simp [vsum]
  | r :: rs, w :: ws, x, l, hn, hm => by
    have e : wsum (r :: rs) (w :: ws) = fun p => (if p = r then clampW w else 0) + wsum rs ws p := by funext p; rw [wsum]
    rw [e, psum_add, psum_one _ _ _ _ hn, if_pos (hm r (by simp)), psum_all rs ws x l hn (fun q hq => hm q (by simp [hq])), vsum]
theorem psum_range {W : ByteArray → Int} {M : Int} (hW : ∀ p, 0 ≤ W p ∧ W p ≤ M) (x : ByteArray) : ∀ l : List ByteArray, 0 ≤ psum W x l ∧ psum W x l ≤ M * 96 * l.length
  | [] => by simp [psum]
  | q :: l => by
    have h := psum_range hW x l
    have h1 := hW q
    have h2 := distS_range x q
    have h3 : 0 ≤ W q * distS x q := Int.mul_nonneg h1.1 h2.1
    have h4 : W q * distS x q ≤ M * 96 := Int.mul_le_mul h1.2 h2.2 h2.1 (by omega)
    rw [psum, List.length_cons]
    have h5 : M * 96 * ((l.length + 1 : Nat) : Int) = M * 96 * (l.length : Int) + M * 96 := by rw [Int.natCast_add, Int.mul_add]; omega
    omega
/-- the best of L: the least sum; among equals the first string -/
def BestIn (f : ByteArray → Int) (L : List ByteArray) (s : ByteArray) (n : Int) : Prop := s ∈ L ∧ n = f s ∧ ∀ x ∈ L, n < f x ∨ (n = f x ∧ ltL (codes x) (codes s) = false)
theorem BestIn.uniq {f : ByteArray → Int} {L : List ByteArray} {s t : ByteArray} {n m : Int} (h : BestIn f L s n) (g : BestIn f L t m) : s = t ∧ n = m := by
  have h1 := h.2.2 t g.1
  have g1 := g.2.2 s h.1
  have e1 := h.2.1
  have e2 := g.2.1
  have : n = m := by omega
  refine ⟨codes_inj (ltL_total _ _ ?_ ?_), this⟩
  · rcases g1 with q | q
    · omega
    · exact q.2
  · rcases h1 with q | q
    · omega
    · exact q.2
theorem BestIn.mem {f : ByteArray → Int} {L L' : List ByteArray} {s : ByteArray} {n : Int} (h : BestIn f L s n) (hm : ∀ x, x ∈ L' ↔ x ∈ L) : BestIn f L' s n := ⟨(hm s).2 h.1, h.2.1, fun x hx => h.2.2 x ((hm x).1 hx)⟩
theorem BestIn.one (f : ByteArray → Int) (p : ByteArray) : BestIn f [p] p (f p) := ⟨by simp, rfl, fun x hx => by rw [List.mem_singleton.1 hx]; exact .inr ⟨rfl, ltL_irrefl _⟩⟩
theorem BestIn.less {f : ByteArray → Int} {L : List ByteArray} {s p : ByteArray} {n : Int} (h : BestIn f L s n) (hl : f p < n) : BestIn f (L ++ [p]) p (f p) := by
  refine ⟨by simp, rfl, fun x hx => ?_⟩
  rcases List.mem_append.1 hx with q | q
  · rcases h.2.2 x q with r | r <;> exact .inl (by omega)
  · rw [List.mem_singleton.1 q]; exact .inr ⟨rfl, ltL_irrefl _⟩
theorem BestIn.more {f : ByteArray → Int} {L : List ByteArray} {s p : ByteArray} {n : Int} (h : BestIn f L s n) (hl : n < f p ∨ (n = f p ∧ ltL (codes p) (codes s) = false)) : BestIn f (L ++ [p]) s n := by
  refine ⟨by simp [h.1], h.2.1, fun x hx => ?_⟩
  rcases List.mem_append.1 hx with q | q
  · exact h.2.2 x q
  · rw [List.mem_singleton.1 q]; exact hl
theorem BestIn.first {f : ByteArray → Int} {L : List ByteArray} {s p : ByteArray} {n : Int} (h : BestIn f L s n) (hl : n = f p) (hb : ltL (codes p) (codes s) = true) : BestIn f (L ++ [p]) p (f p) := by
  refine ⟨by simp, rfl, fun x hx => ?_⟩
  rcases List.mem_append.1 hx with q | q
  · rcases h.2.2 x q with r | r
    · exact .inl (by omega)
    · refine .inr ⟨by omega, ?_⟩
      cases hc : ltL (codes x) (codes p)
      · rfl
      · have := ltL_trans _ _ _ hc hb
        rw [r.2] at this; cases this
  · rw [List.mem_singleton.1 q]; exact .inr ⟨rfl, ltL_irrefl _⟩
/-- what Vote returns -/
def VoteOf (rs : List ByteArray) (ws : List Int) (s : ByteArray) (n : Int) : Prop := if rs.length = 0 ∨ rs.length ≠ ws.length then s = ByteArray.empty ∧ n = 0 else BestIn (vsum rs ws) rs s n
theorem VoteOf.uniq {rs : List ByteArray} {ws : List Int} {s t : ByteArray} {n m : Int} (h : VoteOf rs ws s n) (g : VoteOf rs ws t m) : s = t ∧ n = m := by
  unfold VoteOf at h g
  split at h
  · rename_i q
    rw [if_pos q] at g
    exact ⟨h.1.trans g.1.symm, h.2.trans g.2.symm⟩
  · rename_i q
    rw [if_neg q] at g
    exact h.uniq g
end Go.Tw.Plate
