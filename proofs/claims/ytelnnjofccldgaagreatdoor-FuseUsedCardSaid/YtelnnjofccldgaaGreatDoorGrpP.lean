/-
  Layer 14 (group) in plain Lean: detections, their order, frames. No program in sight.
-/
import Derived.Test.YtelnnjofccldgaaGreatDoorOrd
namespace Go.Tw.Grp
open Go.RowKit Go.Sort Go.Tw.Ord

structure Seen where
  dev : ByteArray
  seq : Int
  dtm : Int
  tag : ByteArray
  plt : ByteArray
  axl : Int
  sco : Int
  tm : Int
  pt : ByteArray
  ln : Int
  kd : Int
deriving DecidableEq
instance : Inhabited Seen := ⟨⟨ByteArray.empty, 0, 0, ByteArray.empty, ByteArray.empty, 0, 0, 0, ByteArray.empty, 0, 0⟩⟩
def tSeen : Ty Seen := ((tStr.pair (tInt.pair (tInt.pair (tStr.pair (tStr.pair (tInt.pair tInt)))))).pair (tInt.pair (tStr.pair (tInt.pair tInt)))).via fun r => ((r.dev, r.seq, r.dtm, r.tag, r.plt, r.axl, r.sco), r.tm, r.pt, r.ln, r.kd)
def sCells (r : Seen) : List Value := [.string r.dev, .int .i64 r.seq, .int .i64 r.dtm, .string r.tag, .string r.plt, .int .i64 r.axl, .int .i64 r.sco, .int .i64 r.tm, .string r.pt, .int .i64 r.ln, .int .i64 r.kd]
structure SeenOk (r : Seen) : Prop where
  dev : r.dev.size ≤ maxLen
  seq : i64ok r.seq
  dtm : i64ok r.dtm
  tag : r.tag.size ≤ maxLen
  plt : r.plt.size ≤ maxLen
  axl : i64ok r.axl
  sco : i64ok r.sco
  tm : i64ok r.tm
  pt : r.pt.size ≤ maxLen
  ln : i64ok r.ln
  kd : i64ok r.kd
theorem tSeen_is {S : Nat → Prop} {w : World} {cs : List Value} {r : Seen} (h : tSeen.is S w cs r) : cs = sCells r ∧ SeenOk r := by
  obtain ⟨_, _, rfl, ⟨_, _, rfl, ⟨rfl, h1⟩, _, _, rfl, ⟨rfl, h2⟩, _, _, rfl, ⟨rfl, h3⟩, _, _, rfl, ⟨rfl, h4⟩, _, _, rfl, ⟨rfl, h5⟩, _, _, rfl, ⟨rfl, h6⟩, ⟨rfl, h7⟩⟩, _, _, rfl, ⟨rfl, h8⟩, _, _, rfl, ⟨rfl, h9⟩, _, _, rfl, ⟨rfl, h10⟩, ⟨rfl, h11⟩⟩ := h
  exact ⟨rfl, h1, h2, h3, h4, h5, h6, h7, h8, h9, h10, h11⟩
theorem tSeen_mk {S : Nat → Prop} {w : World} {r : Seen} (h : SeenOk r) : tSeen.is S w (sCells r) r :=
  ⟨[_, _, _, _, _, _, _], _, rfl, ⟨[_], _, rfl, ⟨rfl, h.dev⟩, [_], _, rfl, ⟨rfl, h.seq⟩, [_], _, rfl, ⟨rfl, h.dtm⟩, [_], _, rfl, ⟨rfl, h.tag⟩, [_], _, rfl, ⟨rfl, h.plt⟩, [_], [_], rfl, ⟨rfl, h.axl⟩, rfl, h.sco⟩, [_], _, rfl, ⟨rfl, h.tm⟩, [_], _, rfl, ⟨rfl, h.pt⟩, [_], [_], rfl, ⟨rfl, h.ln⟩, rfl, h.kd⟩
theorem tSeen_own_mk {w : World} {r : Seen} (h : SeenOk r) : tSeen.own [] w (sCells r) r :=
  ⟨[_, _, _, _, _, _, _], _, [], [], rfl, rfl, ⟨[_], _, [], [], rfl, rfl, ⟨rfl, rfl, h.dev⟩, [_], _, [], [], rfl, rfl, ⟨rfl, rfl, h.seq⟩, [_], _, [], [], rfl, rfl, ⟨rfl, rfl, h.dtm⟩, [_], _, [], [], rfl, rfl, ⟨rfl, rfl, h.tag⟩, [_], _, [], [], rfl, rfl, ⟨rfl, rfl, h.plt⟩, [_], [_], [], [], rfl, rfl, ⟨rfl, rfl, h.axl⟩, rfl, rfl, h.sco⟩, [_], _, [], [], rfl, rfl, ⟨rfl, rfl, h.tm⟩, [_], _, [], [], rfl, rfl, ⟨rfl, rfl, h.pt⟩, [_], [_], [], [], rfl, rfl, ⟨rfl, rfl, h.ln⟩, rfl, rfl, h.kd⟩
theorem ownSeen {w w' : World} {cs : List Value} {x : Seen} {S : Nat → Prop} (h : tSeen.is S w cs x) : tSeen.own [] w' cs x := by
  obtain ⟨rfl, hh⟩ := tSeen_is h
  exact tSeen_own_mk hh
theorem tSeen_own {F : List Nat} {w : World} {cs : List Value} {r : Seen} (h : tSeen.own F w cs r) : F = [] ∧ cs = sCells r ∧ SeenOk r := by
  refine ⟨?_, tSeen_is (tSeen.own_is h)⟩
  obtain ⟨_, _, _, _, rfl, rfl, ⟨_, _, _, _, rfl, rfl, ⟨rfl, rfl, _⟩, _, _, _, _, rfl, rfl, ⟨rfl, rfl, _⟩, _, _, _, _, rfl, rfl, ⟨rfl, rfl, _⟩, _, _, _, _, rfl, rfl, ⟨rfl, rfl, _⟩, _, _, _, _, rfl, rfl, ⟨rfl, rfl, _⟩, _, _, _, _, rfl, rfl, ⟨rfl, rfl, _⟩, ⟨rfl, rfl, _⟩⟩, _, _, _, _, rfl, rfl, ⟨rfl, rfl, _⟩, _, _, _, _, rfl, rfl, ⟨rfl, rfl, _⟩, _, _, _, _, rfl, rfl, ⟨rfl, rfl, _⟩, ⟨rfl, rfl, _⟩⟩ := h
  rfl
theorem seenFlat : tSeen.Flat := fun h => by
  obtain ⟨rfl, hh⟩ := tSeen_is h
  exact tSeen_mk hh

/-! ### The order -/
def rawF : List (Seen → Seen → Int) := [fun x y => cmpS x.dev y.dev, fun x y => cmpI x.seq y.seq, fun x y => cmpI x.dtm y.dtm, fun x y => cmpS x.tag y.tag, fun x y => cmpS x.plt y.plt, fun x y => cmpI x.axl y.axl, fun x y => cmpI x.sco y.sco]
def rawC (x y : Seen) : Int := orL (rawF.map fun f => f x y)
def seenF : List (Seen → Seen → Int) := [fun x y => cmpI x.tm y.tm, fun x y => cmpS x.pt y.pt, fun x y => cmpI x.kd y.kd, fun x y => cmpI x.ln y.ln, rawC]
def seenC (x y : Seen) : Int := orL (seenF.map fun f => f x y)
theorem seenC_cmp : Cmp seenC := Cmp.orL fun f hf => by
  simp only [seenF, List.mem_cons, List.not_mem_nil, or_false] at hf
  rcases hf with rfl | rfl | rfl | rfl | rfl
  · exact cmpI_cmp.on Seen.tm
  · exact cmpS_cmp.on Seen.pt
  · exact cmpI_cmp.on Seen.kd
  · exact cmpI_cmp.on Seen.ln
  · refine Cmp.orL fun f hf => ?_
    simp only [rawF, List.mem_cons, List.not_mem_nil, or_false] at hf
    rcases hf with rfl | rfl | rfl | rfl | rfl | rfl | rfl
    · exact cmpS_cmp.on Seen.dev
    · exact cmpI_cmp.on Seen.seq
    · exact cmpI_cmp.on Seen.dtm
    · exact cmpS_cmp.on Seen.tag
    · exact cmpS_cmp.on Seen.plt
    · exact cmpI_cmp.on Seen.axl
    · exact cmpI_cmp.on Seen.sco
theorem seenC_zero {x y : Seen} (h : seenC x y = 0) : x = y := by
  have h1 := orL_zero h
  simp only [seenF, List.map_cons, List.map_nil, List.mem_cons, List.not_mem_nil, or_false, forall_eq_or_imp, forall_eq] at h1
  obtain ⟨a1, a2, a3, a4, a5⟩ := h1
  have h2 := orL_zero a5
  simp only [rawF, List.map_cons, List.map_nil, List.mem_cons, List.not_mem_nil, or_false, forall_eq_or_imp, forall_eq] at h2
  obtain ⟨b1, b2, b3, b4, b5, b6, b7⟩ := h2
  cases x; cases y
  congr 1
  · exact cmpS_zero b1
  · exact cmpI_zero b2
  · exact cmpI_zero b3
  · exact cmpS_zero b4
  · exact cmpS_zero b5
  · exact cmpI_zero b6
  · exact cmpI_zero b7
  · exact cmpI_zero a1
  · exact cmpS_zero a2
  · exact cmpI_zero a4
  · exact cmpI_zero a3
theorem seenC_tm {x y : Seen} (h : seenC x y ≤ 0) : x.tm ≤ y.tm := by
  unfold seenC seenF cmpI at h
  simp only [List.map_cons, orL] at h
  by_cases a : x.tm < y.tm
  · omega
  · rw [if_neg a] at h
    by_cases b : y.tm < x.tm
    · rw [if_pos b, if_neg (by decide)] at h; omega
    · omega
def sortS : List Seen → List Seen := sortL seenC
theorem sortS_perm (l : List Seen) : (sortS l).Perm l := sortL_perm l
theorem sortS_len (l : List Seen) : (sortS l).length = l.length := sortL_len l
theorem sortS_congr {l l' : List Seen} (hp : l'.Perm l) : sortS l' = sortS l := sortL_congr seenC_cmp (fun _ _ => seenC_zero) hp
theorem sortS_tm (l : List Seen) : (sortS l).Pairwise fun x y => x.tm ≤ y.tm := (sortL_sorted seenC_cmp l).imp seenC_tm

/-! ### Frames -/
/-- are two detections close? -/
def closeC (g : Int) (a b : Seen) : Bool := decide (a.pt = b.pt) && decide (max a.tm b.tm - min a.tm b.tm ≤ max g 0)
def lastS (f : List Seen) : Seen := f.getLastD default
def addF (g : Int) (out : List (List Seen)) (s : Seen) : List (List Seen) :=
  match out.findIdx? fun f => closeC g (lastS f) s with
  | some i => out.set i (out.getD i [] ++ [s])
  | none => out ++ [[s]]
def runF (g : Int) (out : List (List Seen)) (l : List Seen) : List (List Seen) := l.foldl (addF g) out
def framesC (g : Int) (l : List Seen) : List (List Seen) := runF g [] (sortS l)
theorem addF_at {g : Int} {out : List (List Seen)} {s : Seen} {i : Nat} (hi : i < out.length) (h : closeC g (lastS out[i]) s = true) (hn : ∀ j (hj : j < i), closeC g (lastS out[j]) s = false) :
    addF g out s = out.set i (out[i] ++ [s]) := by
  unfold addF
  have : out.findIdx? (fun f => closeC g (lastS f) s) = some i := by
    rw [List.findIdx?_eq_some_iff_getElem]
    exact ⟨hi, h, fun j hj => by rw [hn j hj]; simp⟩
  rw [this]
  simp [List.getD_eq_getElem?_getD, hi]
theorem addF_no {g : Int} {out : List (List Seen)} {s : Seen} (hn : ∀ j (hj : j < out.length), closeC g (lastS out[j]) s = false) : addF g out s = out ++ [[s]] := by
  unfold addF
  have : out.findIdx? (fun f => closeC g (lastS f) s) = none := by
    rw [List.findIdx?_eq_none_iff]
    intro f hf
    obtain ⟨j, hj, rfl⟩ := List.getElem_of_mem hf
    exact hn j hj
  rw [this]
/-- frames so far, all times at most T -/
structure FInv (g : Int) (out : List (List Seen)) (T : Int) : Prop where
  ne : ∀ f ∈ out, f ≠ []
  pt : ∀ f ∈ out, ∀ x ∈ f, ∀ y ∈ f, x.pt = y.pt
  le : ∀ f ∈ out, ∀ x ∈ f, x.tm ≤ T
  asc : ∀ f ∈ out, ∀ k (h : k + 1 < f.length), f[k].tm ≤ f[k + 1].tm ∧ f[k + 1].tm - f[k].tm ≤ max g 0
  sep : ∀ i j (hi : i < out.length) (hj : j < out.length), i < j → ∀ a ∈ out[i], ∀ b ∈ out[j], a.pt = b.pt → a.tm + max g 0 < b.tm
theorem FInv.nil (g T : Int) : FInv g [] T := ⟨by simp, by simp, by simp, by simp, fun i j hi => by simp at hi⟩
theorem FInv.mono {g : Int} {out : List (List Seen)} {T U : Int} (h : FInv g out T) (hT : T ≤ U) : FInv g out U := ⟨h.ne, h.pt, fun f hf x hx => Int.le_trans (h.le f hf x hx) hT, h.asc, h.sep⟩
theorem lastS_mem {f : List Seen} (h : f ≠ []) : lastS f ∈ f := by
  unfold lastS
  rw [List.getLastD_eq_getLast?, List.getLast?_eq_some_getLast h]
  exact List.getLast_mem h
theorem lastS_get {f : List Seen} (h : f ≠ []) : lastS f = f[f.length - 1]'(by have := List.length_pos_iff.2 h; omega) := by
  unfold lastS
  rw [List.getLastD_eq_getLast?, List.getLast?_eq_some_getLast h, List.getLast_eq_getElem]
  rfl
theorem close_iff {g : Int} {a b : Seen} (h : a.tm ≤ b.tm) : closeC g a b = true ↔ a.pt = b.pt ∧ b.tm - a.tm ≤ max g 0 := by
  unfold closeC
  rw [Bool.and_eq_true, decide_eq_true_eq, decide_eq_true_eq, Int.max_eq_right h, Int.min_eq_left h]
/-- at most one frame takes a detection -/
theorem FInv.uniq {g : Int} {out : List (List Seen)} {s : Seen} (h : FInv g out s.tm) {i j : Nat} (hi : i < out.length) (hj : j < out.length) (ci : closeC g (lastS out[i]) s = true) (cj : closeC g (lastS out[j]) s = true) : i = j := by
  have mi := lastS_mem (h.ne _ (List.getElem_mem hi))
  have mj := lastS_mem (h.ne _ (List.getElem_mem hj))
  have li := h.le _ (List.getElem_mem hi) _ mi
  have lj := h.le _ (List.getElem_mem hj) _ mj
  obtain ⟨p1, q1⟩ := (close_iff li).1 ci
  obtain ⟨p2, q2⟩ := (close_iff lj).1 cj
  rcases Nat.lt_trichotomy i j with e | e | e
  · have := h.sep i j hi hj e _ mi _ mj (p1.trans p2.symm); omega
  · exact e
  · have := h.sep j i hj hi e _ mj _ mi (p2.trans p1.symm); omega
theorem FInv.put {g : Int} {out : List (List Seen)} {s : Seen} (h : FInv g out s.tm) {i : Nat} (hi : i < out.length) (ci : closeC g (lastS out[i]) s = true) : FInv g (out.set i (out[i] ++ [s])) s.tm := by
  have mi := lastS_mem (h.ne _ (List.getElem_mem hi))
  have li := h.le _ (List.getElem_mem hi) _ mi
  obtain ⟨p1, q1⟩ := (close_iff li).1 ci
  have hm : ∀ f ∈ out.set i (out[i] ++ [s]), f ∈ out ∨ f = out[i] ++ [s] := fun f hf => List.mem_or_eq_of_mem_set hf
  refine ⟨fun f hf => ?_, fun f hf x hx y hy => ?_, fun f hf x hx => ?_, fun f hf k hk => ?_, fun a b ha hb hab x hx y hy hp => ?_⟩
  · rcases hm f hf with hf | rfl
    · exact h.ne f hf
    · simp
  · have key : ∀ x ∈ out[i] ++ [s], x.pt = s.pt := fun x hx => by
      rcases List.mem_append.1 hx with hx | hx
      · exact (h.pt _ (List.getElem_mem hi) _ hx _ mi).trans p1
      · simp at hx; rw [hx]
    rcases hm f hf with hf | rfl
    · exact h.pt f hf x hx y hy
    · exact (key x hx).trans (key y hy).symm
  · rcases hm f hf with hf | rfl
    · exact h.le f hf x hx
    · rcases List.mem_append.1 hx with hx | hx
      · exact h.le _ (List.getElem_mem hi) x hx
      · simp at hx; rw [hx]; exact Int.le_refl _
  · rcases hm f hf with hf | rfl
    · exact h.asc f hf k hk
    · have hlen : (out[i] ++ [s]).length = out[i].length + 1 := by simp
      by_cases hk' : k + 1 < out[i].length
      · rw [List.getElem_append_left (show k < out[i].length by omega), List.getElem_append_left hk']
        exact h.asc _ (List.getElem_mem hi) k hk'
      · have e : lastS out[i] = out[i][k]'(by omega) := by
          rw [lastS_get (h.ne _ (List.getElem_mem hi))]
          congr 1
          omega
        rw [List.getElem_append_left (show k < out[i].length by omega), List.getElem_append_right (by omega)]
        simp only [List.getElem_singleton]
        rw [← e]
        exact ⟨li, q1⟩
  · have ha' : a < out.length := by simpa using ha
    have hb' : b < out.length := by simpa using hb
    rw [List.getElem_set] at hx hy
    split at hx
    · rename_i e
      subst e
      rw [if_neg (by omega)] at hy
      rcases List.mem_append.1 hx with hx | hx
      · exact h.sep i b hi hb' hab x hx y hy hp
      · simp at hx
        subst hx
        have mb := h.le _ (List.getElem_mem hb') _ hy
        have := h.sep i b hi hb' hab _ mi y hy (p1.trans hp)
        omega
    · split at hy
      · rename_i e
        subst e
        rcases List.mem_append.1 hy with hy | hy
        · exact h.sep a i ha' hi hab x hx y hy hp
        · simp at hy
          subst hy
          have := h.sep a i ha' hi hab x hx _ mi (hp.trans p1.symm)
          omega
      · exact h.sep a b ha' hb' hab x hx y hy hp
theorem FInv.new {g : Int} {out : List (List Seen)} {s : Seen} (h : FInv g out s.tm) (hn : ∀ j (hj : j < out.length), closeC g (lastS out[j]) s = false) : FInv g (out ++ [[s]]) s.tm := by
  have hm : ∀ f ∈ out ++ [[s]], f ∈ out ∨ f = [s] := fun f hf => by simpa using hf
  refine ⟨fun f hf => ?_, fun f hf x hx y hy => ?_, fun f hf x hx => ?_, fun f hf k hk => ?_, fun a b ha hb hab x hx y hy hp => ?_⟩
  · rcases hm f hf with hf | rfl
    · exact h.ne f hf
    · simp
  · rcases hm f hf with hf | rfl
    · exact h.pt f hf x hx y hy
    · simp at hx hy; rw [hx, hy]
  · rcases hm f hf with hf | rfl
    · exact h.le f hf x hx
    · simp at hx; rw [hx]; exact Int.le_refl _
  · rcases hm f hf with hf | rfl
    · exact h.asc f hf k hk
    · simp at hk
  · simp only [List.length_append, List.length_singleton] at ha hb
    have ha' : a < out.length := by omega
    rw [List.getElem_append_left ha'] at hx
    by_cases hb' : b < out.length
    · rw [List.getElem_append_left hb'] at hy
      exact h.sep a b ha' hb' hab x hx y hy hp
    · rw [List.getElem_append_right (by omega)] at hy
      simp at hy
      subst hy
      have mi := lastS_mem (h.ne _ (List.getElem_mem ha'))
      have li := h.le _ (List.getElem_mem ha') _ mi
      have lx := h.le _ (List.getElem_mem ha') _ hx
      have hq := (h.pt _ (List.getElem_mem ha') _ hx _ mi).symm.trans hp
      have := hn a ha'
      have hc : ¬ (closeC g (lastS out[a]) y = true) := by rw [this]; simp
      rw [close_iff li] at hc
      have hgt : max g 0 < y.tm - (lastS out[a]).tm := by
        rcases Int.lt_or_le (max g 0) (y.tm - (lastS out[a]).tm) with k | k
        · exact k
        · exact absurd ⟨hq, k⟩ hc
      -- x is not behind the last one
      have hx' : x.tm ≤ (lastS out[a]).tm := by
        obtain ⟨k, hk, rfl⟩ := List.getElem_of_mem hx
        rw [lastS_get (h.ne _ (List.getElem_mem ha'))]
        have mono : ∀ d, (hd : k + d < out[a].length) → out[a][k].tm ≤ out[a][k + d].tm := fun d => by
          induction d with
          | zero => intro _; exact Int.le_refl _
          | succ d ih => intro hd; exact Int.le_trans (ih (by omega)) (h.asc _ (List.getElem_mem ha') (k + d) hd).1
        have := mono (out[a].length - 1 - k) (by omega)
        simpa [show k + (out[a].length - 1 - k) = out[a].length - 1 by omega] using this
      omega
theorem FInv.step {g : Int} {out : List (List Seen)} {s : Seen} (h : FInv g out s.tm) : FInv g (addF g out s) s.tm := by
  by_cases hn : ∀ j (hj : j < out.length), closeC g (lastS out[j]) s = false
  · rw [addF_no hn]; exact h.new hn
  · have : ∃ j, ∃ hj : j < out.length, closeC g (lastS out[j]) s = true := by
      apply Classical.byContradiction
      intro hc
      apply hn
      intro j hj
      cases q : closeC g (lastS out[j]) s with
      | false => rfl
      | true => exact absurd ⟨j, hj, q⟩ hc
    obtain ⟨j, hj, hc⟩ := this
    rw [addF_at hj hc fun i hi => by
      cases q : closeC g (lastS out[i]) s with
      | false => rfl
      | true => have := h.uniq (by omega) hj q hc; omega]
    exact h.put hj hc
theorem addF_perm (g : Int) (out : List (List Seen)) (s : Seen) : (addF g out s).flatten.Perm (out.flatten ++ [s]) := by
  unfold addF
  split
  · rename_i i hi
    obtain ⟨hi, -, -⟩ := List.findIdx?_eq_some_iff_getElem.1 hi
    have e : out.getD i [] = out[i] := by simp [List.getD_eq_getElem?_getD, hi]
    rw [e, List.set_eq_take_append_cons_drop, if_pos hi]
    have e2 : out = out.take i ++ out[i] :: out.drop (i + 1) := by
      rw [List.getElem_cons_drop, List.take_append_drop]
    conv => rhs; rw [e2]
    simp only [List.flatten_append, List.flatten_cons, List.append_assoc]
    refine List.Perm.append_left _ (List.Perm.append_left _ ?_)
    exact List.perm_append_comm
  · simp
theorem runF_perm (g : Int) (l : List Seen) : ∀ out, (runF g out l).flatten.Perm (out.flatten ++ l) := by
  induction l with
  | nil => intro out; simp [runF]
  | cons s l ih =>
    intro out
    show (runF g (addF g out s) l).flatten.Perm _
    refine (ih _).trans ?_
    rw [show out.flatten ++ s :: l = (out.flatten ++ [s]) ++ l by simp]
    exact List.Perm.append_right _ (addF_perm g out s)
theorem runF_inv {g : Int} : ∀ {l : List Seen} {out : List (List Seen)} {T : Int}, FInv g out T → (∀ x ∈ l, T ≤ x.tm) → l.Pairwise (fun x y => x.tm ≤ y.tm) → ∃ U, FInv g (runF g out l) U := by
  intro l
  induction l with
  | nil => intro out T h _ _; exact ⟨T, h⟩
  | cons s l ih =>
    intro out T h hl hp
    rw [List.pairwise_cons] at hp
    exact ih (h.mono (hl s (by simp))).step hp.1 hp.2
theorem framesC_inv (g : Int) (l : List Seen) : ∃ U, FInv g (framesC g l) U := by
  unfold framesC
  have hp := sortS_tm l
  cases h : sortS l with
  | nil => exact ⟨0, FInv.nil g 0⟩
  | cons s r =>
    refine runF_inv (FInv.nil g s.tm) (fun x hx => ?_) (h ▸ hp)
    rw [h, List.pairwise_cons] at hp
    rcases List.mem_cons.1 hx with rfl | hx
    · exact Int.le_refl _
    · exact hp.1 x hx
theorem framesC_perm (g : Int) (l : List Seen) : (framesC g l).flatten.Perm l := by
  refine (runF_perm g _ _).trans ?_
  simpa using sortS_perm l
theorem framesC_congr {g : Int} {l l' : List Seen} (hp : l'.Perm l) : framesC g l' = framesC g l := by unfold framesC; rw [sortS_congr hp]
end Go.Tw.Grp
