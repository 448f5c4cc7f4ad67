/-
  Layer 17 (passage) in plain Lean: sources, passages, their order. No program in sight.
-/
import Derived.Test.YtelnnjofccldgaaGreatDoorOrd
namespace Go.Tw.Ps
open Go.RowKit Go.Sort Go.Tw.Ord

structure Src where
  dev : ByteArray
  seq : Int
deriving DecidableEq
instance : Inhabited Src := ⟨⟨ByteArray.empty, 0⟩⟩
def tSrc : Ty Src := (tStr.pair tInt).via fun r => (r.dev, r.seq)
def srcCells (r : Src) : List Value := [.string r.dev, .int .i64 r.seq]
structure SrcOk (r : Src) : Prop where
  dev : r.dev.size ≤ maxLen
  seq : i64ok r.seq
theorem tSrc_is {S : Nat → Prop} {w : World} {cs : List Value} {r : Src} (h : tSrc.is S w cs r) : cs = srcCells r ∧ SrcOk r := by
  obtain ⟨_, _, rfl, ⟨rfl, h1⟩, ⟨rfl, h2⟩⟩ := h
  exact ⟨rfl, h1, h2⟩
theorem tSrc_mk {S : Nat → Prop} {w : World} {r : Src} (h : SrcOk r) : tSrc.is S w (srcCells r) r := ⟨[_], [_], rfl, ⟨rfl, h.dev⟩, rfl, h.seq⟩
theorem tSrc_own_mk {w : World} {r : Src} (h : SrcOk r) : tSrc.own [] w (srcCells r) r := ⟨[_], [_], [], [], rfl, rfl, ⟨rfl, rfl, h.dev⟩, rfl, rfl, h.seq⟩
theorem ownSrc {w w' : World} {cs : List Value} {x : Src} {S : Nat → Prop} (h : tSrc.is S w cs x) : tSrc.own [] w' cs x := by
  obtain ⟨rfl, hh⟩ := tSrc_is h
  exact tSrc_own_mk hh
theorem srcFlat : tSrc.Flat := fun h => by
  obtain ⟨rfl, hh⟩ := tSrc_is h
  exact tSrc_mk hh
structure Pas where
  id : ByteArray
  pt : ByteArray
  tm : Int
  tag : ByteArray
  plt : ByteArray
  cls : Int
  sco : Int
  src : List Src
deriving DecidableEq
instance : Inhabited Pas := ⟨⟨ByteArray.empty, ByteArray.empty, 0, ByteArray.empty, ByteArray.empty, 0, 0, []⟩⟩
def tPas (e : TypeId) : Ty Pas := (tStr.pair (tStr.pair (tInt.pair (tStr.pair (tStr.pair (tInt.pair (tInt.pair (tSrc.list e)))))))).via fun r => (r.id, r.pt, r.tm, r.tag, r.plt, r.cls, r.sco, r.src)
def pCells (r : Pas) (v : Value) : List Value := [.string r.id, .string r.pt, .int .i64 r.tm, .string r.tag, .string r.plt, .int .i64 r.cls, .int .i64 r.sco, v]
structure PasOk (r : Pas) : Prop where
  id : r.id.size ≤ maxLen
  pt : r.pt.size ≤ maxLen
  tm : i64ok r.tm
  tag : r.tag.size ≤ maxLen
  plt : r.plt.size ≤ maxLen
  cls : i64ok r.cls
  sco : i64ok r.sco
theorem tPas_is {e : TypeId} {S : Nat → Prop} {w : World} {cs : List Value} {r : Pas} (h : (tPas e).is S w cs r) : ∃ v, cs = pCells r v ∧ PasOk r ∧ SlIs tSrc S w v r.src := by
  obtain ⟨_, _, rfl, ⟨rfl, h1⟩, _, _, rfl, ⟨rfl, h2⟩, _, _, rfl, ⟨rfl, h3⟩, _, _, rfl, ⟨rfl, h4⟩, _, _, rfl, ⟨rfl, h5⟩, _, _, rfl, ⟨rfl, h6⟩, _, _, rfl, ⟨rfl, h7⟩, ⟨v, rfl, h8⟩⟩ := h
  exact ⟨v, rfl, ⟨h1, h2, h3, h4, h5, h6, h7⟩, h8⟩
theorem tPas_mk {e : TypeId} {S : Nat → Prop} {w : World} {r : Pas} {v : Value} (h : PasOk r) (hv : SlIs tSrc S w v r.src) : (tPas e).is S w (pCells r v) r :=
  ⟨[_], _, rfl, ⟨rfl, h.id⟩, [_], _, rfl, ⟨rfl, h.pt⟩, [_], _, rfl, ⟨rfl, h.tm⟩, [_], _, rfl, ⟨rfl, h.tag⟩, [_], _, rfl, ⟨rfl, h.plt⟩, [_], _, rfl, ⟨rfl, h.cls⟩, [_], [_], rfl, ⟨rfl, h.sco⟩, v, rfl, hv⟩
theorem tPas_own {e : TypeId} {F : List Nat} {w : World} {cs : List Value} {r : Pas} (h : (tPas e).own F w cs r) : ∃ v, cs = pCells r v ∧ PasOk r ∧ OwnL tSrc e F w v r.src := by
  obtain ⟨_, _, _, _, rfl, rfl, ⟨rfl, rfl, h1⟩, _, _, _, _, rfl, rfl, ⟨rfl, rfl, h2⟩, _, _, _, _, rfl, rfl, ⟨rfl, rfl, h3⟩, _, _, _, _, rfl, rfl, ⟨rfl, rfl, h4⟩, _, _, _, _, rfl, rfl, ⟨rfl, rfl, h5⟩, _, _, _, _, rfl, rfl, ⟨rfl, rfl, h6⟩, _, _, _, _, rfl, rfl, ⟨rfl, rfl, h7⟩, ⟨v, rfl, h8⟩⟩ := h
  exact ⟨v, rfl, ⟨h1, h2, h3, h4, h5, h6, h7⟩, h8⟩
theorem tPas_own_mk {e : TypeId} {F : List Nat} {w : World} {r : Pas} {v : Value} (h : PasOk r) (hv : OwnL tSrc e F w v r.src) : (tPas e).own F w (pCells r v) r :=
  ⟨[_], _, [], _, rfl, rfl, ⟨rfl, rfl, h.id⟩, [_], _, [], _, rfl, rfl, ⟨rfl, rfl, h.pt⟩, [_], _, [], _, rfl, rfl, ⟨rfl, rfl, h.tm⟩, [_], _, [], _, rfl, rfl, ⟨rfl, rfl, h.tag⟩, [_], _, [], _, rfl, rfl, ⟨rfl, rfl, h.plt⟩, [_], _, [], _, rfl, rfl, ⟨rfl, rfl, h.cls⟩, [_], [_], [], _, rfl, rfl, ⟨rfl, rfl, h.sco⟩, v, rfl, hv⟩

/-! ### The order -/
def srcC (a b : Src) : Int := orL [cmpS a.dev b.dev, cmpI a.seq b.seq]
theorem srcC_cmp : Cmp srcC := by
  have := Cmp.orL (fs := [fun a b : Src => cmpS a.dev b.dev, fun a b : Src => cmpI a.seq b.seq]) (fun f hf => by
    simp only [List.mem_cons, List.not_mem_nil, or_false] at hf
    rcases hf with rfl | rfl
    · exact cmpS_cmp.on Src.dev
    · exact cmpI_cmp.on Src.seq)
  exact this
theorem srcC_zero {a b : Src} (h : srcC a b = 0) : a = b := by
  have h1 := orL_zero h
  simp only [List.mem_cons, List.not_mem_nil, or_false, forall_eq_or_imp, forall_eq] at h1
  cases a; cases b
  congr 1
  · exact cmpS_zero h1.1
  · exact cmpI_zero h1.2
/-- lists, place by place; the shorter one first -/
def listC : List Src → List Src → Int
  | [], [] => 0
  | [], _ :: _ => -1
  | _ :: _, [] => 1
  | a :: l, b :: m => if srcC a b = 0 then listC l m else srcC a b
theorem srcC_self (a : Src) : srcC a a = 0 := by have := srcC_cmp.anti a a; omega
theorem listC_anti : ∀ l m, listC m l = - listC l m
  | [], [] => rfl
  | [], _ :: _ => rfl
  | _ :: _, [] => rfl
  | a :: l, b :: m => by
    have h := srcC_cmp.anti a b
    unfold listC
    by_cases e : srcC a b = 0
    · rw [if_pos e, if_pos (by omega)]; exact listC_anti l m
    · rw [if_neg e, if_neg (by omega)]; exact h
theorem listC_trans : ∀ l m n, listC l m ≤ 0 → listC m n ≤ 0 → listC l n ≤ 0
  | [], _, [], _, _ => by unfold listC; omega
  | [], _, _ :: _, _, _ => by unfold listC; omega
  | _ :: _, [], _, h, _ => by unfold listC at h; omega
  | _ :: _, _ :: _, [], _, h => by unfold listC at h; omega
  | a :: l, b :: m, c :: n, h1, h2 => by
    have a1 := srcC_cmp.anti a b
    have a2 := srcC_cmp.anti b c
    have a3 := srcC_cmp.anti a c
    unfold listC at h1 h2 ⊢
    have b1 : srcC a b ≤ 0 := by
      by_cases e : srcC a b = 0
      · omega
      · rwa [if_neg e] at h1
    have b2 : srcC b c ≤ 0 := by
      by_cases e : srcC b c = 0
      · omega
      · rwa [if_neg e] at h2
    have b3 := srcC_cmp.trans a b c b1 b2
    by_cases e : srcC a c = 0
    · have c1 := srcC_cmp.trans c a b (by omega) b1
      have c2 := srcC_cmp.trans b c a b2 (by omega)
      rw [if_pos e]
      rw [if_pos (by omega)] at h1 h2
      exact listC_trans l m n h1 h2
    · rw [if_neg e]; exact b3
theorem listC_cmp : Cmp listC := ⟨listC_anti, listC_trans⟩
theorem listC_zero : ∀ {l m : List Src}, listC l m = 0 → l = m
  | [], [], _ => rfl
  | [], _ :: _, h => by unfold listC at h; omega
  | _ :: _, [], h => by unfold listC at h; omega
  | a :: l, b :: m, h => by
    unfold listC at h
    by_cases e : srcC a b = 0
    · rw [if_pos e] at h
      rw [srcC_zero e, listC_zero h]
    · rw [if_neg e] at h
      exact absurd h e
theorem listC_drop {l m : List Src} {k : Nat} (h1 : k < l.length) (h2 : k < m.length) : listC (l.drop k) (m.drop k) = if srcC l[k] m[k] = 0 then listC (l.drop (k + 1)) (m.drop (k + 1)) else srcC l[k] m[k] := by
  rw [List.drop_eq_getElem_cons h1, List.drop_eq_getElem_cons h2, listC]
theorem listC_end {l m : List Src} {k : Nat} (h1 : k ≤ l.length) (h2 : k ≤ m.length) (h3 : l.length ≤ k ∨ m.length ≤ k) : listC (l.drop k) (m.drop k) = cmpI l.length m.length := by
  unfold cmpI
  by_cases q : l.length ≤ k
  · rw [List.drop_eq_nil_of_le q]
    by_cases q2 : m.length ≤ k
    · rw [List.drop_eq_nil_of_le q2, listC, if_neg (by omega), if_neg (by omega)]
    · rw [List.drop_eq_getElem_cons (by omega), listC, if_pos (by omega)]
  · rw [List.drop_eq_getElem_cons (by omega), List.drop_eq_nil_of_le (show m.length ≤ k by omega), listC, if_neg (by omega), if_pos (by omega)]
def pasF : List (Pas → Pas → Int) := [fun x y => cmpI x.tm y.tm, fun x y => cmpS x.pt y.pt, fun x y => cmpS x.id y.id, fun x y => cmpS x.tag y.tag, fun x y => cmpS x.plt y.plt, fun x y => cmpI x.cls y.cls, fun x y => cmpI x.sco y.sco, fun x y => listC x.src y.src]
def pasC (x y : Pas) : Int := orL (pasF.map fun f => f x y)
theorem pasC_cmp : Cmp pasC := Cmp.orL fun f hf => by
  simp only [pasF, List.mem_cons, List.not_mem_nil, or_false] at hf
  rcases hf with rfl | rfl | rfl | rfl | rfl | rfl | rfl | rfl
  · exact cmpI_cmp.on Pas.tm
  · exact cmpS_cmp.on Pas.pt
  · exact cmpS_cmp.on Pas.id
  · exact cmpS_cmp.on Pas.tag
  · exact cmpS_cmp.on Pas.plt
  · exact cmpI_cmp.on Pas.cls
  · exact cmpI_cmp.on Pas.sco
  · exact listC_cmp.on Pas.src
theorem pasC_zero {x y : Pas} (h : pasC x y = 0) : x = y := by
  have h1 := orL_zero h
  simp only [pasF, List.map_cons, List.map_nil, List.mem_cons, List.not_mem_nil, or_false, forall_eq_or_imp, forall_eq] at h1
  obtain ⟨a1, a2, a3, a4, a5, a6, a7, a8⟩ := h1
  cases x; cases y
  congr 1
  · exact cmpS_zero a3
  · exact cmpS_zero a2
  · exact cmpI_zero a1
  · exact cmpS_zero a4
  · exact cmpS_zero a5
  · exact cmpI_zero a6
  · exact cmpI_zero a7
  · exact listC_zero a8
theorem pasC_self (x : Pas) : pasC x x = 0 := by have := pasC_cmp.anti x x; omega
theorem pasC_iff {x y : Pas} : pasC x y = 0 ↔ x = y := ⟨pasC_zero, fun h => h ▸ pasC_self x⟩
def sortP : List Pas → List Pas := sortL pasC
theorem sortP_perm (l : List Pas) : (sortP l).Perm l := sortL_perm l
theorem sortP_len (l : List Pas) : (sortP l).length = l.length := sortL_len l
theorem sortP_sorted (l : List Pas) : (sortP l).Pairwise fun x y => pasC x y ≤ 0 := sortL_sorted pasC_cmp l
theorem sortP_congr {l l' : List Pas} (hp : l'.Perm l) : sortP l' = sortP l := sortL_congr pasC_cmp (fun _ _ => pasC_zero) hp
theorem sortP_uniq {l l' : List Pas} (hp : l'.Perm l) (hs : l'.Pairwise fun x y => pasC x y ≤ 0) : l' = sortP l := sortL_uniq pasC_cmp (fun _ _ => pasC_zero) hp hs
theorem insP_sort {m : List Pas} {x : Pas} {k : Nat} (h1 : ∀ j (hj : j < (sortP m).length), j < k → pasC (sortP m)[j] x ≤ 0) (h2 : ∀ h : k < (sortP m).length, ¬ pasC (sortP m)[k] x ≤ 0) :
    (sortP m).take k ++ [x] ++ (sortP m).drop k = sortP (m ++ [x]) := by
  have hs := sortP_sorted m
  have hp := sortP_perm m
  refine sortP_uniq ?_ ?_
  · refine List.Perm.trans ?_ (hp.append_right [x])
    conv => rhs; rw [← List.take_append_drop k (sortP m)]
    rw [List.append_assoc, List.append_assoc]
    exact List.Perm.append_left _ List.perm_append_comm
  · generalize sortP m = S at *
    have hs' := hs
    rw [← List.take_append_drop k S, List.pairwise_append] at hs'
    obtain ⟨p1, p2, p3⟩ := hs'
    have ha : ∀ a ∈ S.take k, pasC a x ≤ 0 := fun a ha => by
      obtain ⟨j, hj, rfl⟩ := List.getElem_of_mem ha
      rw [List.getElem_take]
      rw [List.length_take] at hj
      exact h1 j (by omega) (by omega)
    have hb : ∀ b ∈ S.drop k, pasC x b ≤ 0 := fun b hb => by
      obtain ⟨j, hj, rfl⟩ := List.getElem_of_mem hb
      rw [List.length_drop] at hj
      have hk : k < S.length := by omega
      have e := h2 hk
      have an := pasC_cmp.anti S[k] x
      have h0 : pasC x S[k] ≤ 0 := by omega
      rw [List.getElem_drop]
      rcases Nat.eq_zero_or_pos j with rfl | hj0
      · simpa using h0
      · exact pasC_cmp.trans _ _ _ h0 (List.pairwise_iff_getElem.1 hs k (k + j) hk (by omega) (by omega))
    rw [List.pairwise_append, List.pairwise_append]
    refine ⟨⟨p1, List.pairwise_singleton _ _, fun a h b hb' => by simp at hb'; subst hb'; exact ha a h⟩, p2, fun a h b hb' => ?_⟩
    rcases List.mem_append.1 h with h | h
    · exact p3 a h b hb'
    · simp at h; subst h; exact hb b hb'

/-! ### Differences -/
/-- those of a that are not in b, each once, ascending -/
def DiffSpec (a b O : List Pas) : Prop := O.Pairwise (fun x y => pasC x y < 0) ∧ ∀ x, x ∈ O ↔ x ∈ a ∧ x ∉ b
theorem pas_asc_uniq {a b : List Pas} (ha : a.Pairwise fun x y => pasC x y < 0) (hb : b.Pairwise fun x y => pasC x y < 0) (h : ∀ x, x ∈ a ↔ x ∈ b) : a = b := by
  have ne : ∀ {x y : Pas}, pasC x y < 0 → x ≠ y := fun {x y} h e => by subst e; have := pasC_self x; omega
  have hp : a.Perm b := (List.perm_ext_iff_of_nodup (ha.imp ne) (hb.imp ne)).2 h
  exact (sortP_uniq hp (ha.imp fun h => by omega)).trans (sortP_uniq (List.Perm.refl b) (hb.imp fun h => by omega)).symm
theorem DiffSpec.uniq {a b O O' : List Pas} (h : DiffSpec a b O) (h' : DiffSpec a b O') : O = O' := pas_asc_uniq h.1 h'.1 fun x => (h.2 x).trans (h'.2 x).symm

/-! ### Vehicles -/
abbrev es : ByteArray := ByteArray.empty
/-- the tags that occur with a plate, in their order -/
def tagsOf (l : List Pas) (p : ByteArray) : List ByteArray := (l.filter fun x => decide (x.plt = p) && !decide (x.tag = es)).map Pas.tag
/-- the only tag that occurs with a plate, or the empty one -/
def onlyTag (l : List Pas) (p : ByteArray) : ByteArray := match tagsOf l p with
  | [] => es
  | t :: r => if r.all (fun u => decide (u = t)) then t else es
/-- the vehicle to which a passage belongs -/
def ownP (l : List Pas) (x : Pas) : ByteArray := if x.tag = es then (if x.plt = es then es else if onlyTag l x.plt = es then x.plt else onlyTag l x.plt) else x.tag
def ofP (l : List Pas) (v : ByteArray) : List Pas := if v = es then [] else sortP (l.filter fun x => decide (ownP l x = v))
def VehSpec (l : List Pas) (O : List ByteArray) : Prop := O.Pairwise (fun x y => cmpS x y < 0) ∧ ∀ v, v ∈ O ↔ v ≠ es ∧ ∃ x ∈ l, ownP l x = v
theorem cmpS_self (a : ByteArray) : cmpS a a = 0 := by have := cmpS_cmp.anti a a; omega
theorem VehSpec.uniq {l : List Pas} {O O' : List ByteArray} (h : VehSpec l O) (h' : VehSpec l O') : O = O' := by
  have ne : ∀ {x y : ByteArray}, cmpS x y < 0 → x ≠ y := fun {x y} h e => by subst e; have := cmpS_self x; omega
  have hp : O.Perm O' := (List.perm_ext_iff_of_nodup (h.1.imp ne) (h'.1.imp ne)).2 fun x => (h.2 x).trans (h'.2 x).symm
  exact (sortL_uniq cmpS_cmp (fun _ _ => cmpS_zero) hp (h.1.imp fun h => by omega)).trans (sortL_uniq cmpS_cmp (fun _ _ => cmpS_zero) (List.Perm.refl O') (h'.1.imp fun h => by omega)).symm
end Go.Tw.Ps
