/-
  Layer 37 (post) in plain Lean: what Entry, Apply, Void, Sync, Pay, Check compute.
-/
import Derived.Test.YtifcelebfagjbaaGreatDoorMgH
import Derived.Test.YtifcelebfagjbaaGreatDoorMgA
import Derived.Laws.CopyRow
import Derived.Shelf.SlicesQ.Load
import Derived.Deep.QuietTactic
namespace Go.Tw.Po
open Go.RowKit Go.Tw Go.Sort Go.Tw.Ord Go.Proofs.YtifcelebfagjbaaGreatDoor
/-- books -/
structure Bk where
  es : List Ent
  ds : List Chg
/-- amounts for the same account are added up -/
def addP : List SI → ByteArray → Int → List SI
  | [], a, n => [⟨a, n⟩]
  | p :: l, a, n => if p.s = a then ⟨p.s, p.n + n⟩ :: l else p :: addP l a n
def sAcc : ByteArray := ⟨#[97, 99, 99, 111, 117, 110, 116, 58]⟩
def sCase : ByteArray := ⟨#[99, 97, 115, 101, 58]⟩
def sRev : ByteArray := ⟨#[114, 101, 118, 101, 110, 117, 101, 58]⟩
def sDash : ByteArray := ⟨#[45]⟩
def sCash : ByteArray := ⟨#[99, 97, 115, 104]⟩
def sPay : ByteArray := ⟨#[112, 97, 121]⟩
def debC (c : List Acc) (x : Chg) : ByteArray := match ownerO c x.veh x.tm with
  | some nm => sAcc ++ nm
  | none => sCase ++ x.veh
def creC (x : Chg) : ByteArray := sRev ++ orS [x.sys, sDash]
def moveP (c : List Acc) (l : List SI) (x : Chg) (n : Int) : List SI := addP (addP l (debC c x) n) (creC x) (-n)
def cleanP (l : List SI) : List SI := l.filter fun p => !decide (p.n = 0)
/-- what an entry, a ledger has at an account -/
def balE (a : ByteArray) (e : Ent) : Int := sumL (e.ps.filter fun p => decide (p.s = a))
def balL (a : ByteArray) (l : List Ent) : Int := (l.map (balE a)).sum
/-- ledger.Post -/
noncomputable def postL (es : List Ent) (e : Ent) : List Ent × Int :=
  if entC e ≠ 0 then (es, entC e) else if (es.any fun x => decide (x.key = e.key)) = true then (es, 9) else if (e.ps.all fun p => fitsM (balL p.s es + balE p.s e)) = true then (es ++ [e], 0) else (es, 13)
noncomputable def enterL (es : List Ent) (k : ByteArray) (t : Int) (ps : List SI) : List Ent × Int :=
  if cleanP ps = [] then (es, 0) else postL es ⟨k, t, cleanP ps⟩
def ltB (a b : ByteArray) : Bool := ltL (codes a) (codes b)
/-- a charge, in the place of its key -/
def putP : List Chg → Chg → List Chg
  | [], x => [x]
  | y :: l, x => if y.key = x.key then x :: l else if ltB x.key y.key = true then x :: y :: l else y :: putP l x
def momC (t : Int) : Bool := decide (0 ≤ t) && decide (t ≤ 68719476736)
def postsA (c : List Acc) (ds : List Chg) (x : Chg) : List SI := match fndC ds x.key with
  | some o => moveP c (moveP c [] o (-o.c)) x x.c
  | none => moveP c [] x x.c
noncomputable def applyP (c : List Acc) (b : Bk) (x : Chg) : Bk × Int :=
  if chkC x ≠ 0 then (b, chkC x) else
  let r := enterL b.es (keyC x.key (verN b.es x.key)) x.tm (postsA c b.ds x)
  if r.2 ≠ 0 then (b, r.2) else (⟨r.1, putP b.ds x⟩, 0)
noncomputable def voidP (c : List Acc) (b : Bk) (s : ByteArray) (t : Int) : Bk × Int :=
  match fndC b.ds s with
  | none => (b, 10)
  | some o => if momC t = false then (b, 12) else
    let r := enterL b.es (keyC s (verN b.es s)) t (moveP c [] o (-o.c))
    if r.2 ≠ 0 then (b, r.2) else (⟨r.1, b.ds.filter fun x => !decide (x.key = s)⟩, 0)
/-- how many payments -/
def payN (es : List Ent) : Nat := (es.filter fun e => Lib.hasPrefix (kb e.key) (kb sPay ++ [35])).length
noncomputable def payP (b : Bk) (nm : ByteArray) (n t : Int) : Bk × Int :=
  if nameC nm = false then (b, 6) else if n < 1 ∨ 1125899906842624 < n then (b, 13) else if momC t = false then (b, 12) else
  let r := postL b.es ⟨keyC sPay (payN b.es), t, [⟨sCash, n⟩, ⟨sAcc ++ nm, -n⟩]⟩
  if r.2 ≠ 0 then (b, r.2) else (⟨r.1, b.ds⟩, 0)
/-- charges one behind the other, up to the first error -/
noncomputable def runA (c : List Acc) : Bk → List Chg → Bk × Int
  | b, [] => (b, 0)
  | b, x :: l => if (applyP c b x).2 ≠ 0 then (b, (applyP c b x).2) else runA c (applyP c b x).1 l
noncomputable def runV (c : List Acc) (t : Int) : Bk → List ByteArray → Bk × Int
  | b, [] => (b, 0)
  | b, s :: l => if (voidP c b s t).2 ≠ 0 then (b, (voidP c b s t).2) else runV c t (voidP c b s t).1 l
def keysC (l : List Chg) : List ByteArray := l.map Chg.key
open Classical in
noncomputable def dupK (l : List Chg) : Bool := !decide (keysC l).Nodup
def sortC (l : List Chg) : List Chg := sortL chgC l
/-- the keys of Done that the charges lack -/
def goneK (ds l : List Chg) : List ByteArray := (keysC ds).filter fun s => !hasS (keysC l) s
noncomputable def syncP (c : List Acc) (b : Bk) (l : List Chg) (t : Int) : Bk × Int :=
  if dupK l = true then (b, 9) else
  let r := runA c b (sortC l)
  if r.2 ≠ 0 then (b, r.2) else
  let q := runV c t r.1 (goneK r.1.ds l)
  if q.2 ≠ 0 then (b, q.2) else (q.1, 0)
/-- the charges in the order of their keys, each key once -/
def SortK (l : List Chg) : Prop := l.Pairwise fun x y => ltB x.key y.key = true
theorem ltB_irrefl (a : ByteArray) : ltB a a = false := ltL_irrefl _
theorem ltB_ne {a b : ByteArray} (h : ltB a b = true) : a ≠ b := by rintro rfl; rw [ltB_irrefl] at h; cases h
theorem ltB_trans {a b c : ByteArray} (h1 : ltB a b = true) (h2 : ltB b c = true) : ltB a c = true := ltL_trans _ _ _ h1 h2
theorem ltB_asymm {a b : ByteArray} (h : ltB a b = true) : ltB b a = false := ltL_asymm h
theorem ltB_total {a b : ByteArray} (h1 : ltB a b = false) (h2 : ltB b a = false) : a = b := codes_inj (ltL_total _ _ h1 h2)
theorem SortK.nodup {l : List Chg} (h : SortK l) : (keysC l).Nodup := List.pairwise_map.2 (h.imp fun h => ltB_ne h)
/-- the program's way to put a charge in: in the place of its key, or before the first key that is not less -/
theorem put_some {l : List Chg} {x : Chg} {k : Nat} (hk : k < l.length) (he : l[k].key = x.key) (hs : SortK l) : l.set k x = putP l x := by
  induction l generalizing k with
  | nil => simp at hk
  | cons y l ih =>
    rw [putP]
    have hs' := List.pairwise_cons.1 hs
    cases k with
    | zero => rw [if_pos (by simpa using he)]; rfl
    | succ k =>
      have hk' : k < l.length := by simpa using hk
      have he' : l[k].key = x.key := by rwa [List.getElem_cons_succ] at he
      have hlt := hs'.1 l[k] (List.getElem_mem _)
      rw [he'] at hlt
      rw [if_neg (ltB_ne hlt), ltB_asymm hlt]
      simp only [Bool.false_eq_true, if_false, List.set_cons_succ]
      rw [ih hk' he' hs'.2]
theorem put_none {l : List Chg} {x : Chg} {k : Nat} (hk : k ≤ l.length) (hn : ∀ y ∈ l, y.key ≠ x.key) (h1 : ∀ j (hj : j < l.length), j < k → ltB l[j].key x.key = true) (h2 : ∀ h : k < l.length, ltB l[k].key x.key = false) :
    l.take k ++ x :: l.drop k = putP l x := by
  induction l generalizing k with
  | nil => simp only [List.length_nil, Nat.le_zero] at hk; subst hk; rfl
  | cons y l ih =>
    rw [putP, if_neg (hn y (List.mem_cons_self))]
    cases k with
    | zero =>
      have hq := h2 (by simp)
      simp only [List.getElem_cons_zero] at hq
      rw [if_pos]
      · rfl
      · cases hz : ltB x.key y.key with
        | true => rfl
        | false => exact absurd (ltB_total hq hz) (hn y List.mem_cons_self)
    | succ k =>
      have h0 := h1 0 (by simp) (by omega)
      simp only [List.getElem_cons_zero] at h0
      rw [ltB_asymm h0]
      simp only [Bool.false_eq_true, if_false, List.take_succ_cons, List.drop_succ_cons, List.cons_append]
      rw [ih (by simpa using hk) (fun z hz => hn z (List.mem_cons_of_mem _ hz)) (fun j hj hjk => by have := h1 (j + 1) (by simpa using hj) (by omega); rwa [List.getElem_cons_succ] at this) (fun h => by have := h2 (by simpa using h); rwa [List.getElem_cons_succ] at this)]
theorem put_mem {l : List Chg} {x : Chg} (z : Chg) (hz : z ∈ putP l x) : z = x ∨ z ∈ l := by
  induction l with
  | nil => rw [putP] at hz; exact .inl (by simpa using hz)
  | cons y l ih =>
    rw [putP] at hz
    split at hz
    · rcases List.mem_cons.1 hz with h | h
      · exact .inl h
      · exact .inr (List.mem_cons_of_mem _ h)
    · split at hz
      · rcases List.mem_cons.1 hz with h | h
        · exact .inl h
        · exact .inr h
      · rcases List.mem_cons.1 hz with h | h
        · exact .inr (by rw [h]; exact List.mem_cons_self)
        · rcases ih h with h | h
          · exact .inl h
          · exact .inr (List.mem_cons_of_mem _ h)
theorem put_sorted {l : List Chg} {x : Chg} (hs : SortK l) : SortK (putP l x) := by
  induction l with
  | nil => exact List.pairwise_singleton _ _
  | cons y l ih =>
    have hs' := List.pairwise_cons.1 hs
    rw [putP]
    split
    · rename_i he
      exact List.pairwise_cons.2 ⟨fun z hz => by rw [← he]; exact hs'.1 z hz, hs'.2⟩
    · rename_i hne
      split
      · rename_i hlt
        refine List.pairwise_cons.2 ⟨fun z hz => ?_, hs⟩
        rcases List.mem_cons.1 hz with rfl | hz
        · exact hlt
        · exact ltB_trans hlt (hs'.1 z hz)
      · rename_i hlt
        refine List.pairwise_cons.2 ⟨fun z hz => ?_, ih hs'.2⟩
        rcases put_mem z hz with rfl | hz
        · cases hq : ltB y.key z.key with
          | true => rfl
          | false => exact absurd (ltB_total hq (by simpa using hlt)) hne
        · exact hs'.1 z hz
theorem put_len {l : List Chg} {x : Chg} : (putP l x).length ≤ l.length + 1 := by
  induction l with
  | nil => simp [putP]
  | cons y l ih =>
    rw [putP]
    split
    · simp
    · split
      · simp
      · simp; omega
/-- the reference's way: without the key, before the first greater key -/
theorem put_ref {l : List Chg} {x : Chg} (hs : SortK l) :
    putP l x = (l.filter fun y => ltB y.key x.key) ++ x :: (l.filter fun y => ltB x.key y.key) := by
  induction l with
  | nil => rfl
  | cons y l ih =>
    have hs' := List.pairwise_cons.1 hs
    have tail : ∀ (_ : ltB x.key y.key = true ∨ x.key = y.key), (l.filter fun z => ltB z.key x.key) = [] ∧ (l.filter fun z => ltB x.key z.key) = l := fun hq => by
      have hz : ∀ z ∈ l, ltB x.key z.key = true := fun z hz => by
        rcases hq with hq | hq
        · exact ltB_trans hq (hs'.1 z hz)
        · rw [hq]; exact hs'.1 z hz
      exact ⟨List.filter_eq_nil_iff.2 fun z hz' => by rw [ltB_asymm (hz z hz')]; simp, List.filter_eq_self.2 hz⟩
    rw [putP]
    split
    · rename_i he
      obtain ⟨t1, t2⟩ := tail (.inr he.symm)
      rw [List.filter_cons, List.filter_cons, he, ltB_irrefl]
      simp only [Bool.false_eq_true, if_false]
      rw [t1, t2]; rfl
    · rename_i hne
      split
      · rename_i hlt
        obtain ⟨t1, t2⟩ := tail (.inl hlt)
        rw [List.filter_cons, List.filter_cons, ltB_asymm hlt, hlt]
        simp only [Bool.false_eq_true, if_false, if_true]
        rw [t1, t2]; rfl
      · rename_i hlt
        have h1 : ltB y.key x.key = true := by
          cases hq : ltB y.key x.key with
          | true => rfl
          | false => exact absurd (ltB_total hq (by simpa using hlt)) hne
        rw [List.filter_cons, List.filter_cons, h1, ltB_asymm h1]
        simp only [Bool.false_eq_true, if_false, if_true, List.cons_append]
        rw [ih hs'.2]
theorem key_inj : ∀ {l : List Chg}, (keysC l).Nodup → ∀ {a b : Chg}, a ∈ l → b ∈ l → a.key = b.key → a = b
  | [], _, _, _, ha, _, _ => by cases ha
  | z :: l, hn, a, b, ha', hb', hk => by
    have hn' := List.nodup_cons.1 (show (z.key :: keysC l).Nodup from hn)
    rcases List.mem_cons.1 ha' with e1 | e1
    · rcases List.mem_cons.1 hb' with e2 | e2
      · rw [e1, e2]
      · exact absurd (List.mem_map.2 ⟨b, e2, by rw [← hk, e1]⟩) hn'.1
    · rcases List.mem_cons.1 hb' with e2 | e2
      · exact absurd (List.mem_map.2 ⟨a, e1, by rw [hk, e2]⟩) hn'.1
      · exact key_inj hn'.2 e1 e2 hk
theorem chgC_zero {x y : Chg} (h : chgC x y = 0) : x.key = y.key := by
  have := orL_zero (l := [cmpI x.tm y.tm, cmpS x.key y.key]) h
  exact cmpS_zero (this _ (by simp))
/-- the sorted list, where each key is there once -/
theorem sort_uniq {l l' : List Chg} (hn : (keysC l).Nodup) (hp : l'.Perm l) (hs : l'.Pairwise fun x y => chgC x y ≤ 0) : l' = sortC l := by
  have hp2 : (sortC l).Perm l := sortL_perm l
  refine List.Perm.eq_of_pairwise (le := fun x y => chgC x y ≤ 0) (fun a b ha hb h1 h2 => ?_) hs (sortL_sorted chgC_cmp l) (hp.trans hp2.symm)
  exact key_inj hn (hp.mem_iff.1 ha) (hp2.mem_iff.1 hb) (chgC_zero (by have := chgC_cmp.anti a b; omega))
/-! ### Amounts -/
theorem addP_len (l : List SI) (a : ByteArray) (n : Int) : (addP l a n).length ≤ l.length + 1 := by
  induction l with
  | nil => simp [addP]
  | cons p l ih =>
    rw [addP]
    split
    · simp
    · simp; omega
/-- amounts within a bound -/
def Amt (m : Int) (l : List SI) : Prop := ∀ p ∈ l, -m ≤ p.n ∧ p.n ≤ m
theorem Amt.mono {m m' : Int} {l : List SI} (h : Amt m l) (hm : m ≤ m') : Amt m' l := fun p hp => by have := h p hp; omega
theorem addP_amt {m k : Int} {l : List SI} {a : ByteArray} {n : Int} (h : Amt m l) (hm : 0 ≤ m) (h1 : -k ≤ n) (h2 : n ≤ k) : Amt (m + k) (addP l a n) := by
  induction l with
  | nil => intro p hp; rw [addP] at hp; obtain rfl := List.mem_singleton.1 hp; simp only; omega
  | cons q l ih =>
    rw [addP]
    have hq := h q List.mem_cons_self
    have hl : Amt m l := fun p hp => h p (List.mem_cons_of_mem _ hp)
    split
    · intro p hp
      rcases List.mem_cons.1 hp with rfl | hp
      · simp only; omega
      · have := hl p hp; omega
    · intro p hp
      rcases List.mem_cons.1 hp with rfl | hp
      · omega
      · exact ih hl p hp
theorem nil_amt (m : Int) : Amt m [] := fun p hp => by simp at hp
theorem clean_amt {m : Int} {l : List SI} (h : Amt m l) : Amt m (cleanP l) := fun p hp => h p (List.mem_filter.1 hp).1
theorem clean_len (l : List SI) : (cleanP l).length ≤ l.length := List.length_filter_le _ _
end Go.Tw.Po
/-
  Layer 37 (post) in plain Lean: what Apply, Void, Sync, Pay keep.
-/
namespace Go.Tw.Po
open Go.RowKit Go.Tw Go.Sort Go.Tw.Ord Go.Proofs.YtifcelebfagjbaaGreatDoor
/-- accounts with short names -/
def CfOk (c : List Acc) : Prop := ∀ a ∈ c, a.nm.size ≤ 12
structure EOk (e : Ent) : Prop where
  key : e.key.size ≤ 100
  ps : e.ps.length ≤ 4
  fit : Fit e.ps
structure COk (x : Chg) : Prop where
  key : x.key.size ≤ 60
  veh : x.veh.size ≤ 30
  sys : x.sys.size ≤ 30
  ls : x.ls.length ≤ 12
/-- books made of the charges L: at most N entries -/
structure BOk (L : List Chg) (N : Nat) (b : Bk) : Prop where
  few : L.length ≤ 8
  len : b.es.length ≤ N
  es : ∀ e ∈ b.es, EOk e
  sort : SortK b.ds
  mem : ∀ x ∈ b.ds, x ∈ L
  ok : ∀ x ∈ L, COk x
  chk : ∀ x ∈ b.ds, chkC x = 0
theorem BOk.mono {L : List Chg} {N M : Nat} {b : Bk} (h : BOk L N b) (hm : N ≤ M) : BOk L M b := ⟨h.few, Nat.le_trans h.len hm, h.es, h.sort, h.mem, h.ok, h.chk⟩
theorem BOk.cok {L : List Chg} {N : Nat} {b : Bk} (h : BOk L N b) : ∀ x ∈ b.ds, COk x := fun x hx => h.ok x (h.mem x hx)
theorem chk_facts {x : Chg} (h : chkC x = 0) : x.key.size ≠ 0 ∧ x.veh.size ≠ 0 ∧ 0 ≤ x.cls ∧ x.cls ≤ 9 ∧ 0 ≤ x.tm ∧ x.tm ≤ 68719476736 ∧ 0 ≤ x.c ∧ x.c ≤ 1125899906842624 ∧ Fit x.ls ∧ x.c = sumL x.ls := by
  unfold chkC at h
  by_cases h1 : x.key.size = 0 ∨ x.veh.size = 0
  · rw [if_pos h1] at h; omega
  rw [if_neg h1] at h
  by_cases h2 : x.cls < 0 ∨ 9 < x.cls
  · rw [if_pos h2] at h; omega
  rw [if_neg h2] at h
  by_cases h3 : x.tm < 0 ∨ 68719476736 < x.tm
  · rw [if_pos h3] at h; omega
  rw [if_neg h3] at h
  by_cases h4 : (x.ls.all fun l => fitsM l.n) = false
  · rw [if_pos h4] at h; omega
  rw [if_neg h4] at h
  by_cases h5 : x.c < 0 ∨ 1125899906842624 < x.c
  · rw [if_pos h5] at h; omega
  rw [if_neg h5] at h
  by_cases h6 : x.c = sumL x.ls
  · refine ⟨fun e => h1 (.inl e), fun e => h1 (.inr e), ?_, ?_, ?_, ?_, ?_, ?_, fit_all.1 (by simpa using h4), h6⟩ <;> omega
  · rw [if_pos h6] at h; omega
theorem ent_facts {e : Ent} (h : entC e = 0) : fieldC e.key = true ∧ 0 ≤ e.tm ∧ e.tm ≤ 68719476736 ∧ Fit e.ps ∧ sumL e.ps = 0 := by
  unfold entC at h
  by_cases h1 : fieldC e.key = false
  · rw [if_pos h1] at h; omega
  rw [if_neg h1] at h
  by_cases h2 : e.tm < 0 ∨ 68719476736 < e.tm
  · rw [if_pos h2] at h; omega
  rw [if_neg h2] at h
  by_cases h3 : e.ps.length = 0
  · rw [if_pos h3] at h; omega
  rw [if_neg h3] at h
  by_cases h4 : 1024 < e.ps.length
  · rw [if_pos h4] at h; omega
  rw [if_neg h4] at h
  unfold postsC at h
  by_cases h5 : orL (e.ps.map postE) ≠ 0
  · rw [if_pos h5] at h; exact absurd h h5
  rw [if_neg h5] at h
  have h5' : orL (e.ps.map postE) = 0 := by simpa using h5
  by_cases h6 : sumL e.ps ≠ 0
  · rw [if_pos h6] at h; omega
  refine ⟨by simpa using h1, by omega, by omega, fun p hp => ?_, by simpa using h6⟩
  have := orL_zero h5' (postE p) (List.mem_map.2 ⟨p, hp, rfl⟩)
  unfold postE at this
  by_cases q1 : fieldC p.s = false
  · rw [if_pos q1] at this; omega
  rw [if_neg q1] at this
  by_cases q2 : p.n = 0
  · rw [if_pos q2] at this; omega
  rw [if_neg q2] at this
  by_cases q3 : fitsM p.n = false
  · rw [if_pos q3] at this; omega
  simpa using q3
theorem post_facts {es es' : List Ent} {e : Ent} (h : postL es e = (es', 0)) : es' = es ++ [e] ∧ entC e = 0 ∧ (∀ x ∈ es, x.key ≠ e.key) := by
  unfold postL at h
  by_cases h1 : entC e ≠ 0
  · rw [if_pos h1] at h; exact absurd (Prod.mk.inj h).2 h1
  rw [if_neg h1] at h
  by_cases h2 : (es.any fun x => decide (x.key = e.key)) = true
  · rw [if_pos h2] at h; exact absurd (Prod.mk.inj h).2 (by decide)
  rw [if_neg h2] at h
  by_cases h3 : (e.ps.all fun p => fitsM (balL p.s es + balE p.s e)) = true
  · rw [if_pos h3] at h
    refine ⟨(Prod.mk.inj h).1.symm, by simpa using h1, fun x hx q => h2 (List.any_eq_true.2 ⟨x, hx, by simpa using q⟩)⟩
  · rw [if_neg h3] at h; exact absurd (Prod.mk.inj h).2 (by decide)
theorem post_none {es : List Ent} {e : Ent} {z : Int} {es' : List Ent} (h : postL es e = (es', z)) (hz : z ≠ 0) : es' = es := by
  unfold postL at h
  repeat' split at h
  all_goals first | exact (Prod.mk.inj h).1.symm | exact absurd (Prod.mk.inj h).2.symm hz
theorem enter_facts {es es' : List Ent} {k : ByteArray} {t : Int} {ps : List SI} (h : enterL es k t ps = (es', 0)) : (cleanP ps = [] ∧ es' = es) ∨ (es' = es ++ [⟨k, t, cleanP ps⟩] ∧ entC ⟨k, t, cleanP ps⟩ = 0 ∧ ∀ x ∈ es, x.key ≠ k) := by
  unfold enterL at h
  by_cases h1 : cleanP ps = []
  · rw [if_pos h1] at h; exact .inl ⟨h1, (Prod.mk.inj h).1.symm⟩
  · rw [if_neg h1] at h; exact .inr (post_facts h)
theorem nodup_le {α : Type} [BEq α] [LawfulBEq α] : ∀ {l m : List α}, l.Nodup → (∀ x ∈ l, x ∈ m) → l.length ≤ m.length
  | [], _, _, _ => Nat.zero_le _
  | x :: l, m, hn, h => by
    have hn' := List.nodup_cons.1 hn
    have hx := h x List.mem_cons_self
    have ih := nodup_le (l := l) (m := m.erase x) hn'.2 (fun y hy => (List.mem_erase_of_ne (fun (e : y = x) => hn'.1 (e ▸ hy))).2 (h y (List.mem_cons_of_mem _ hy)))
    have := List.length_erase_of_mem hx
    have hp := List.length_pos_of_mem hx
    rw [List.length_cons]
    omega
theorem BOk.ds {L : List Chg} {N : Nat} {b : Bk} (h : BOk L N b) : b.ds.length ≤ 8 := by
  have hnd : b.ds.Nodup := List.Pairwise.imp (fun {x y} (q : ltB x.key y.key = true) (e : x = y) => ltB_ne q (by rw [e])) (show b.ds.Pairwise fun x y => ltB x.key y.key = true from h.sort)
  have := nodup_le hnd h.mem
  have := h.few
  omega
theorem keyC_size {s : ByteArray} {n : Int} (hs : s.size ≤ 60) (hn : i64ok n) : (keyC s n).size ≤ 81 := by
  have := fmt_size hn
  unfold keyC
  rw [ByteArray.size_append, ByteArray.size_append]
  show s.size + 1 + _ ≤ 81
  omega
theorem moveP_len (c : List Acc) (l : List SI) (x : Chg) (n : Int) : (moveP c l x n).length ≤ l.length + 2 := by
  unfold moveP
  have h1 := addP_len (addP l (debC c x) n) (creC x) (-n)
  have h2 := addP_len l (debC c x) n
  omega
theorem moveP_amt {c : List Acc} {m : Int} {l : List SI} {x : Chg} {n : Int} (h : Amt m l) (hm : 0 ≤ m) (h1 : -1125899906842624 ≤ n) (h2 : n ≤ 1125899906842624) : Amt (m + 2251799813685248) (moveP c l x n) := by
  unfold moveP
  have := addP_amt (a := creC x) (n := -n) (k := 1125899906842624) (addP_amt (a := debC c x) (k := 1125899906842624) h hm h1 h2) (by omega) (by omega) (by omega)
  exact this.mono (by omega)
theorem postsA_len (c : List Acc) (ds : List Chg) (x : Chg) : (postsA c ds x).length ≤ 4 := by
  unfold postsA
  split
  · have h1 := moveP_len c (moveP c [] ‹Chg› (-(‹Chg›).c)) x x.c
    have h2 := moveP_len c [] ‹Chg› (-(‹Chg›).c)
    simp only [List.length_nil] at h2
    omega
  · have h2 := moveP_len c [] x x.c
    simp only [List.length_nil] at h2
    omega
/-- one more entry -/
theorem enter_es {es es' : List Ent} {N : Nat} {k : ByteArray} {t : Int} {ps : List SI} (h : enterL es k t ps = (es', 0)) (hl : es.length ≤ N) (he : ∀ e ∈ es, EOk e) (hk : k.size ≤ 100) (hp : ps.length ≤ 4) : es'.length ≤ N + 1 ∧ ∀ e ∈ es', EOk e := by
  rcases enter_facts h with ⟨-, rfl⟩ | ⟨rfl, h1, -⟩
  · exact ⟨by omega, he⟩
  · refine ⟨by simp; omega, fun e hm => ?_⟩
    rcases List.mem_append.1 hm with hm | hm
    · exact he e hm
    · rw [List.mem_singleton] at hm
      subst hm
      exact ⟨hk, Nat.le_trans (clean_len ps) hp, (ent_facts h1).2.2.2.1⟩
theorem n_ok {n : Nat} {N : Nat} (h : n ≤ N) (hN : N ≤ 1000) : i64ok (n : Int) := by unfold i64ok; omega
/-- what Apply answers -/
inductive ApplyR (c : List Acc) (b : Bk) (x : Chg) : Bk × Int → Prop
  | chk (h : chkC x ≠ 0) : ApplyR c b x (b, chkC x)
  | bad {z : Int} (h : chkC x = 0) (hz : z ≠ 0) (he : enterL b.es (keyC x.key (verN b.es x.key)) x.tm (postsA c b.ds x) = (b.es, z)) : ApplyR c b x (b, z)
  | ok {es' : List Ent} (h : chkC x = 0) (he : enterL b.es (keyC x.key (verN b.es x.key)) x.tm (postsA c b.ds x) = (es', 0)) : ApplyR c b x (⟨es', putP b.ds x⟩, 0)
theorem enter_none {es es' : List Ent} {k : ByteArray} {t : Int} {ps : List SI} {z : Int} (h : enterL es k t ps = (es', z)) (hz : z ≠ 0) : es' = es := by
  unfold enterL at h
  by_cases h1 : cleanP ps = []
  · rw [if_pos h1] at h; exact absurd (Prod.mk.inj h).2.symm hz
  · rw [if_neg h1] at h; exact post_none h hz
theorem apply_ways (c : List Acc) (b : Bk) (x : Chg) : ApplyR c b x (applyP c b x) := by
  unfold applyP
  by_cases h : chkC x ≠ 0
  · rw [if_pos h]; exact .chk h
  rw [if_neg h]
  have h' : chkC x = 0 := by simpa using h
  obtain ⟨⟨es', z⟩, hr⟩ : ∃ r, enterL b.es (keyC x.key (verN b.es x.key)) x.tm (postsA c b.ds x) = r := ⟨_, rfl⟩
  rw [hr]
  by_cases hz : z ≠ 0
  · simp only [if_pos hz]
    have := enter_none hr hz
    subst this
    exact .bad h' hz hr
  · have hz' : z = 0 := by simpa using hz
    subst hz'
    simp only [ne_eq, not_true_eq_false, if_false]
    exact .ok h' hr
inductive VoidR (c : List Acc) (b : Bk) (s : ByteArray) (t : Int) : Bk × Int → Prop
  | none (h : fndC b.ds s = none) : VoidR c b s t (b, 10)
  | time {o : Chg} (h : fndC b.ds s = some o) (ht : momC t = false) : VoidR c b s t (b, 12)
  | bad {o : Chg} {z : Int} (h : fndC b.ds s = some o) (ht : momC t = true) (hz : z ≠ 0) (he : enterL b.es (keyC s (verN b.es s)) t (moveP c [] o (-o.c)) = (b.es, z)) : VoidR c b s t (b, z)
  | ok {o : Chg} {es' : List Ent} (h : fndC b.ds s = some o) (ht : momC t = true) (he : enterL b.es (keyC s (verN b.es s)) t (moveP c [] o (-o.c)) = (es', 0)) : VoidR c b s t (⟨es', b.ds.filter fun x => !decide (x.key = s)⟩, 0)
theorem void_ways (c : List Acc) (b : Bk) (s : ByteArray) (t : Int) : VoidR c b s t (voidP c b s t) := by
  unfold voidP
  cases hf : fndC b.ds s with
  | none => exact .none hf
  | some o =>
    simp only
    by_cases ht : momC t = false
    · rw [if_pos ht]; exact .time hf ht
    rw [if_neg ht]
    have ht' : momC t = true := by simpa using ht
    obtain ⟨⟨es', z⟩, hr⟩ : ∃ r, enterL b.es (keyC s (verN b.es s)) t (moveP c [] o (-o.c)) = r := ⟨_, rfl⟩
    rw [hr]
    by_cases hz : z ≠ 0
    · simp only [if_pos hz]
      have := enter_none hr hz
      subst this
      exact .bad hf ht' hz hr
    · have hz' : z = 0 := by simpa using hz
      subst hz'
      simp only [ne_eq, not_true_eq_false, if_false]
      exact .ok hf ht' hr
theorem fnd_mem {l : List Chg} {s : ByteArray} {o : Chg} (h : fndC l s = some o) : o ∈ l ∧ o.key = s := by
  unfold fndC at h
  exact ⟨List.mem_of_find?_eq_some h, by simpa using List.find?_some h⟩
theorem BOk.apply {L : List Chg} {N : Nat} {b : Bk} {c : List Acc} {x : Chg} (h : BOk L N b) (hN : N ≤ 1000) (hx : x ∈ L) : BOk L (N + 1) (applyP c b x).1 := by
  have hw := apply_ways c b x
  generalize applyP c b x = r at hw
  cases hw with
  | chk _ => exact h.mono (Nat.le_succ _)
  | bad _ _ _ => exact h.mono (Nat.le_succ _)
  | ok h1 he =>
    have hv : verN b.es x.key ≤ N := Nat.le_trans ver_le h.len
    have hk := keyC_size (h.ok x hx).key (n_ok hv hN)
    obtain ⟨g1, g2⟩ := enter_es he h.len h.es (Nat.le_trans hk (by omega)) (postsA_len c b.ds x)
    refine ⟨h.few, g1, g2, put_sorted h.sort, fun z hz => ?_, h.ok, fun z hz => ?_⟩
    · rcases put_mem z hz with rfl | hz
      · exact hx
      · exact h.mem z hz
    · rcases put_mem z hz with rfl | hz
      · exact h1
      · exact h.chk z hz
theorem BOk.void {L : List Chg} {N : Nat} {b : Bk} {c : List Acc} {s : ByteArray} {t : Int} (h : BOk L N b) (hN : N ≤ 1000) : BOk L (N + 1) (voidP c b s t).1 := by
  have hw := void_ways c b s t
  generalize voidP c b s t = r at hw
  cases hw with
  | none _ => exact h.mono (Nat.le_succ _)
  | time _ _ => exact h.mono (Nat.le_succ _)
  | bad _ _ _ _ => exact h.mono (Nat.le_succ _)
  | @ok o es' hf ht he =>
    have hv : verN b.es s ≤ N := Nat.le_trans ver_le h.len
    obtain ⟨om, ok⟩ := fnd_mem hf
    have hk := keyC_size (s := s) (by rw [← ok]; exact (h.cok o om).key) (n_ok hv hN)
    obtain ⟨g1, g2⟩ := enter_es he h.len h.es (Nat.le_trans hk (by omega)) (Nat.le_trans (moveP_len c [] o (-o.c)) (by simp))
    exact ⟨h.few, g1, g2, List.Pairwise.filter _ h.sort, fun z hz => h.mem z (List.mem_filter.1 hz).1, h.ok, fun z hz => h.chk z (List.mem_filter.1 hz).1⟩
theorem pay_le {es : List Ent} : payN es ≤ es.length := List.length_filter_le _ _
inductive PayR (b : Bk) (nm : ByteArray) (n t : Int) : Bk × Int → Prop
  | bad {z : Int} (hz : z ≠ 0) : PayR b nm n t (b, z)
  | ok {es' : List Ent} (hn : nameC nm = true) (h1 : 1 ≤ n) (h2 : n ≤ 1125899906842624) (he : postL b.es ⟨keyC sPay (payN b.es), t, [⟨sCash, n⟩, ⟨sAcc ++ nm, -n⟩]⟩ = (es', 0)) : PayR b nm n t (⟨es', b.ds⟩, 0)
theorem pay_ways (b : Bk) (nm : ByteArray) (n t : Int) : PayR b nm n t (payP b nm n t) := by
  unfold payP
  by_cases h1 : nameC nm = false
  · rw [if_pos h1]; exact .bad (by decide)
  rw [if_neg h1]
  by_cases h2 : n < 1 ∨ 1125899906842624 < n
  · rw [if_pos h2]; exact .bad (by decide)
  rw [if_neg h2]
  by_cases h3 : momC t = false
  · rw [if_pos h3]; exact .bad (by decide)
  rw [if_neg h3]
  obtain ⟨⟨es', z⟩, hr⟩ : ∃ r, postL b.es ⟨keyC sPay (payN b.es), t, [⟨sCash, n⟩, ⟨sAcc ++ nm, -n⟩]⟩ = r := ⟨_, rfl⟩
  rw [hr]
  by_cases hz : z ≠ 0
  · simp only [if_pos hz]; exact .bad hz
  · have hz' : z = 0 := by simpa using hz
    subst hz'
    simp only [ne_eq, not_true_eq_false, if_false]
    exact .ok (by simpa using h1) (by omega) (by omega) hr
theorem BOk.pay {L : List Chg} {N : Nat} {b : Bk} {nm : ByteArray} {n t : Int} (h : BOk L N b) (hN : N ≤ 1000) : BOk L (N + 1) (payP b nm n t).1 := by
  have hw := pay_ways b nm n t
  generalize payP b nm n t = r at hw
  cases hw with
  | bad _ => exact h.mono (Nat.le_succ _)
  | ok hn h1 h2 he =>
    have hv : payN b.es ≤ N := Nat.le_trans pay_le h.len
    have hk := keyC_size (s := sPay) (by decide) (n_ok hv hN)
    obtain ⟨rfl, g1, -⟩ := post_facts he
    have hl := h.len
    refine ⟨h.few, by simp; omega, fun e hm => ?_, h.sort, h.mem, h.ok, h.chk⟩
    rcases List.mem_append.1 hm with hm | hm
    · exact h.es e hm
    · rw [List.mem_singleton] at hm
      subst hm
      exact ⟨Nat.le_trans hk (by omega), by simp, (ent_facts g1).2.2.2.1⟩
theorem BOk.runA {L : List Chg} {c : List Acc} : ∀ {m : List Chg} {N : Nat} {b : Bk}, BOk L N b → N + m.length ≤ 1000 → (∀ x ∈ m, x ∈ L) → BOk L (N + m.length) (runA c b m).1
  | [], _, _, h, _, _ => by rw [Po.runA]; exact h
  | x :: m, N, b, h, hN, hm => by
    rw [List.length_cons] at hN ⊢
    rw [Po.runA]
    by_cases he : (applyP c b x).2 ≠ 0
    · rw [if_pos he]; exact h.mono (by omega)
    · rw [if_neg he]
      have := BOk.runA (c := c) (h.apply (c := c) (by omega) (hm x List.mem_cons_self)) (m := m) (by omega) (fun y hy => hm y (List.mem_cons_of_mem _ hy))
      exact this.mono (by omega)
theorem BOk.runV {L : List Chg} {c : List Acc} {t : Int} : ∀ {m : List ByteArray} {N : Nat} {b : Bk}, BOk L N b → N + m.length ≤ 1000 → BOk L (N + m.length) (runV c t b m).1
  | [], _, _, h, _ => by rw [Po.runV]; exact h
  | x :: m, N, b, h, hN => by
    rw [List.length_cons] at hN ⊢
    rw [Po.runV]
    by_cases he : (voidP c b x t).2 ≠ 0
    · rw [if_pos he]; exact h.mono (by omega)
    · rw [if_neg he]
      have := BOk.runV (c := c) (t := t) (h.void (c := c) (s := x) (t := t) (by omega)) (m := m) (by omega)
      exact this.mono (by omega)
theorem gone_len (ds l : List Chg) : (goneK ds l).length ≤ ds.length := by
  unfold goneK
  have := List.length_filter_le (fun s => !hasS (keysC l) s) (keysC ds)
  simpa [keysC] using this
theorem BOk.sync {L : List Chg} {N : Nat} {b : Bk} {c : List Acc} {l : List Chg} {t : Int} (h : BOk L N b) (hN : N + 16 ≤ 1000) (hl : l.length ≤ 8) (hm : ∀ x ∈ l, x ∈ L) : BOk L (N + 16) (syncP c b l t).1 := by
  unfold syncP
  by_cases hd : dupK l = true
  · rw [if_pos hd]; exact h.mono (by omega)
  rw [if_neg hd]
  have hs : (sortC l).length = l.length := sortL_len l
  have h1 := BOk.runA (c := c) (m := sortC l) h (by omega) (fun x hx => hm x ((sortL_perm l).mem_iff.1 hx))
  simp only
  generalize Po.runA c b (sortC l) = r at h1
  by_cases e1 : r.2 ≠ 0
  · rw [if_pos e1]; exact h.mono (by omega)
  rw [if_neg e1]
  have hg := gone_len r.1.ds l
  have hd8 := h1.ds
  have h2 := BOk.runV (c := c) (t := t) (m := goneK r.1.ds l) h1 (by omega)
  generalize Po.runV c t r.1 (goneK r.1.ds l) = q at h2
  by_cases e2 : q.2 ≠ 0
  · rw [if_pos e2]; exact h.mono (by omega)
  rw [if_neg e2]
  exact h2.mono (by omega)
end Go.Tw.Po
/-
  Layer 37 (post) in plain Lean: twice the same, the balances, the paths.
-/
namespace Go.Tw.Po
open Go.RowKit Go.Tw Go.Sort Go.Tw.Ord Go.Proofs.YtifcelebfagjbaaGreatDoor
theorem fndC_cons (y : Chg) (l : List Chg) (s : ByteArray) : fndC (y :: l) s = if y.key = s then some y else fndC l s := by
  unfold fndC
  rw [List.find?_cons]
  by_cases h : y.key = s
  · simp [h]
  · simp [h]
theorem fnd_nil (s : ByteArray) : fndC [] s = none := rfl
theorem fnd_put (l : List Chg) (x : Chg) (s : ByteArray) : fndC (putP l x) s = if s = x.key then some x else fndC l s := by
  induction l with
  | nil =>
    rw [putP, fndC_cons, fnd_nil]
    by_cases h : s = x.key
    · rw [if_pos h, if_pos h.symm]
    · rw [if_neg h, if_neg fun e => h e.symm]
  | cons y l ih =>
    rw [putP]
    by_cases h : s = x.key
    · rw [if_pos h] at ih ⊢
      split
      · rw [fndC_cons, if_pos h.symm]
      · rename_i hne
        split
        · rw [fndC_cons, if_pos h.symm]
        · rw [fndC_cons, if_neg (by rw [h]; exact hne), ih]
    · rw [if_neg h] at ih ⊢
      have h' : ¬ x.key = s := fun e => h e.symm
      split
      · rename_i he
        rw [fndC_cons, fndC_cons, if_neg h', if_neg (by rw [he]; exact h')]
      · split
        · rw [fndC_cons, if_neg h']
        · rw [fndC_cons, fndC_cons, ih]
theorem fnd_mem' {l : List Chg} (hn : (keysC l).Nodup) {x : Chg} (hx : x ∈ l) : fndC l x.key = some x := by
  induction l with
  | nil => cases hx
  | cons y l ih =>
    have hn' := List.nodup_cons.1 (show (y.key :: keysC l).Nodup from hn)
    rw [fndC_cons]
    rcases List.mem_cons.1 hx with rfl | hx
    · rw [if_pos rfl]
    · rw [if_neg, ih hn'.2 hx]
      intro e
      exact hn'.1 (e ▸ List.mem_map.2 ⟨x, hx, rfl⟩)
theorem fnd_no {l : List Chg} {s : ByteArray} (h : s ∉ keysC l) : fndC l s = none := by
  unfold fndC
  rw [List.find?_eq_none]
  intro x hx e
  exact h (List.mem_map.2 ⟨x, hx, by simpa using e⟩)
theorem put_idem {l : List Chg} {x : Chg} (hs : SortK l) (h : fndC l x.key = some x) : putP l x = l := by
  induction l with
  | nil => rw [fnd_nil] at h; cases h
  | cons y l ih =>
    have hs' := List.pairwise_cons.1 hs
    rw [fndC_cons] at h
    rw [putP]
    by_cases he : y.key = x.key
    · rw [if_pos he] at h ⊢
      rw [Option.some.inj h]
    · rw [if_neg he] at h ⊢
      have hm := (fnd_mem h).1
      rw [if_neg (by rw [ltB_asymm (hs'.1 x hm)]; decide), ih hs'.2 h]
theorem kb_app (a b : ByteArray) : kb (a ++ b) = kb a ++ kb b := by unfold kb; simp
theorem deb_ne (c : List Acc) (x : Chg) : debC c x ≠ creC x := by
  intro h
  have h1 := congrArg (fun s => (kb s).head?) h
  have h2 : (kb (creC x)).head? = some 114 := by unfold creC; rw [kb_app]; rfl
  simp only [h2] at h1
  unfold debC at h1
  split at h1
  · rw [kb_app, show (kb sAcc ++ kb _).head? = some 97 from rfl] at h1; cases h1
  · rw [kb_app, show (kb sCase ++ kb _).head? = some 99 from rfl] at h1; cases h1
theorem apply_noop {c : List Acc} {b : Bk} {x : Chg} (hs : SortK b.ds) (hf : fndC b.ds x.key = some x) (hc : chkC x = 0) : applyP c b x = (b, 0) := by
  have hne := deb_ne c x
  have hp : cleanP (postsA c b.ds x) = [] := by
    unfold postsA
    rw [hf]
    simp only [moveP, addP, if_true, if_neg hne, if_neg hne.symm]
    unfold cleanP
    simp
    omega
  unfold applyP
  rw [if_neg (by omega)]
  unfold enterL
  rw [if_pos hp]
  simp only [ne_eq, not_true_eq_false, if_false]
  rw [put_idem hs hf]
theorem apply_twice {c : List Acc} {b : Bk} {x : Chg} (hs : SortK b.ds) (h : (applyP c b x).2 = 0) : applyP c (applyP c b x).1 x = ((applyP c b x).1, 0) := by
  have hw := apply_ways c b x
  generalize applyP c b x = r at hw h
  cases hw with
  | chk hc => exact absurd h hc
  | bad _ hz _ => exact absurd h hz
  | ok hc he => exact apply_noop (put_sorted hs) (by rw [fnd_put, if_pos rfl]) hc
theorem apply_ds {c : List Acc} {b : Bk} {x : Chg} (h : (applyP c b x).2 = 0) : (applyP c b x).1.ds = putP b.ds x ∧ chkC x = 0 := by
  have hw := apply_ways c b x
  generalize applyP c b x = r at hw h
  cases hw with
  | chk hc => exact absurd h hc
  | bad _ hz _ => exact absurd h hz
  | ok hc he => exact ⟨rfl, hc⟩
theorem void_ds {c : List Acc} {b : Bk} {s : ByteArray} {t : Int} (h : (voidP c b s t).2 = 0) : (voidP c b s t).1.ds = b.ds.filter fun x => !decide (x.key = s) := by
  have hw := void_ways c b s t
  generalize voidP c b s t = r at hw h
  cases hw with
  | none _ => simp at h
  | time _ _ => simp at h
  | bad _ _ hz _ => exact absurd h hz
  | ok _ _ _ => rfl
theorem runA_fnd {c : List Acc} : ∀ {m : List Chg} {b : Bk}, (keysC m).Nodup → (runA c b m).2 = 0 → SortK b.ds → SortK (runA c b m).1.ds ∧ (∀ x ∈ m, chkC x = 0) ∧ ∀ s, fndC (runA c b m).1.ds s = (fndC m s).or (fndC b.ds s)
  | [], b, _, _, hs => by rw [runA]; exact ⟨hs, fun x hx => (by cases hx), fun s => rfl⟩
  | x :: m, b, hn, h, hs => by
    have hn' := List.nodup_cons.1 (show (x.key :: keysC m).Nodup from hn)
    rw [runA] at h ⊢
    by_cases he : (applyP c b x).2 ≠ 0
    · rw [if_pos he] at h; exact absurd h he
    rw [if_neg he] at h ⊢
    obtain ⟨e1, e2⟩ := apply_ds (by simpa using he)
    obtain ⟨g1, g2, g3⟩ := runA_fnd hn'.2 h (by rw [e1]; exact put_sorted hs)
    refine ⟨g1, fun y hy => ?_, fun s => ?_⟩
    · rcases List.mem_cons.1 hy with rfl | hy
      · exact e2
      · exact g2 y hy
    · rw [g3 s, e1, fnd_put, fndC_cons]
      by_cases hk : x.key = s
      · rw [if_pos hk, if_pos hk.symm, fnd_no (by rw [← hk]; exact hn'.1)]; rfl
      · rw [if_neg hk, if_neg (fun e => hk e.symm)]
theorem runV_ds {c : List Acc} {t : Int} : ∀ {m : List ByteArray} {b : Bk}, (runV c t b m).2 = 0 → (runV c t b m).1.ds = b.ds.filter fun x => !hasS m x.key
  | [], b, _ => by
    rw [runV]
    exact (List.filter_eq_self.2 fun x _ => rfl).symm
  | s :: m, b, h => by
    rw [runV] at h ⊢
    by_cases he : (voidP c b s t).2 ≠ 0
    · rw [if_pos he] at h; exact absurd h he
    rw [if_neg he] at h ⊢
    rw [runV_ds h, void_ds (by simpa using he), List.filter_filter]
    congr 1
    funext x
    unfold hasS
    rw [List.any_cons]
    simp only [Bool.not_or]
    exact Bool.and_comm _ _
theorem sort_eq : ∀ {a b : List Chg}, SortK a → SortK b → (∀ z, z ∈ a ↔ z ∈ b) → a = b
  | [], [], _, _, _ => rfl
  | [], y :: b, _, _, h => absurd ((h y).2 List.mem_cons_self) (by simp)
  | x :: a, [], _, _, h => absurd ((h x).1 List.mem_cons_self) (by simp)
  | x :: a, y :: b, ha, hb, h => by
    have ha' := List.pairwise_cons.1 ha
    have hb' := List.pairwise_cons.1 hb
    have e : x = y := by
      rcases List.mem_cons.1 ((h x).1 List.mem_cons_self) with q | q
      · exact q
      · rcases List.mem_cons.1 ((h y).2 List.mem_cons_self) with p | p
        · exact p.symm
        · have := ltB_asymm (ha'.1 y p)
          rw [hb'.1 x q] at this; cases this
    subst e
    rw [sort_eq ha'.2 hb'.2 fun z => ?_]
    constructor
    · intro hz
      rcases List.mem_cons.1 ((h z).1 (List.mem_cons_of_mem _ hz)) with q | q
      · exact absurd (congrArg Chg.key q.symm) (ltB_ne (ha'.1 z hz))
      · exact q
    · intro hz
      rcases List.mem_cons.1 ((h z).2 (List.mem_cons_of_mem _ hz)) with q | q
      · exact absurd (congrArg Chg.key q.symm) (ltB_ne (hb'.1 z hz))
      · exact q
/-- what Sync leaves -/
theorem sync_facts {c : List Acc} {b : Bk} {l : List Chg} {t : Int} (h : (syncP c b l t).2 = 0) (hs : SortK b.ds) :
    (keysC l).Nodup ∧ SortK (syncP c b l t).1.ds ∧ (∀ z, z ∈ (syncP c b l t).1.ds ↔ z ∈ l) ∧ ∀ x ∈ l, chkC x = 0 := by
  unfold syncP at h ⊢
  by_cases hd : dupK l = true
  · rw [if_pos hd] at h; simp at h
  rw [if_neg hd] at h ⊢
  have hn : (keysC l).Nodup := by simpa [dupK] using hd
  have hp : (sortC l).Perm l := sortL_perm l
  have hn2 : (keysC (sortC l)).Nodup := (hp.map Chg.key).nodup_iff.2 hn
  simp only at h ⊢
  by_cases e1 : (runA c b (sortC l)).2 ≠ 0
  · rw [if_pos e1] at h; exact absurd h e1
  rw [if_neg e1] at h ⊢
  obtain ⟨g1, g2, g3⟩ := runA_fnd hn2 (by simpa using e1) hs
  by_cases e2 : (runV c t (runA c b (sortC l)).1 (goneK (runA c b (sortC l)).1.ds l)).2 ≠ 0
  · rw [if_pos e2] at h; exact absurd h e2
  rw [if_neg e2]
  have hv := runV_ds (c := c) (t := t) (by simpa using e2)
  simp only
  rw [hv]
  generalize (runA c b (sortC l)).1.ds = D at *
  have hfl : ∀ x ∈ l, fndC D x.key = some x := fun x hx => by
    rw [g3, fnd_mem' hn2 (hp.mem_iff.2 hx)]; rfl
  refine ⟨hn, List.Pairwise.filter _ g1, fun z => ?_, fun x hx => g2 x (hp.mem_iff.2 hx)⟩
  rw [List.mem_filter]
  constructor
  · rintro ⟨hz, hq⟩
    have hzk : z.key ∈ keysC l := by
      apply Classical.byContradiction
      intro hno
      have : hasS (goneK D l) z.key = true := hasS_iff.2 (List.mem_filter.2 ⟨List.mem_map.2 ⟨z, hz, rfl⟩, by
        rw [Bool.not_eq_true']
        cases hh : hasS (keysC l) z.key with
        | false => rfl
        | true => exact absurd (hasS_iff.1 hh) hno⟩)
      rw [this] at hq; cases hq
    obtain ⟨x, hx, hk⟩ := List.mem_map.1 hzk
    have h1 := hfl x hx
    rw [hk, fnd_mem' g1.nodup hz] at h1
    rw [Option.some.inj h1]; exact hx
  · intro hz
    refine ⟨(fnd_mem (hfl z hz)).1, ?_⟩
    rw [Bool.not_eq_true']
    cases hh : hasS (goneK D l) z.key with
    | false => rfl
    | true =>
      have := (List.mem_filter.1 (hasS_iff.1 hh)).2
      rw [hasS_iff.2 (show z.key ∈ keysC l from List.mem_map.2 ⟨z, hz, rfl⟩)] at this; cases this
theorem runA_noop {c : List Acc} {b : Bk} (hs : SortK b.ds) : ∀ {m : List Chg}, (∀ x ∈ m, x ∈ b.ds ∧ chkC x = 0) → runA c b m = (b, 0)
  | [], _ => rfl
  | x :: m, h => by
    have hx := h x List.mem_cons_self
    have e := apply_noop (c := c) hs (fnd_mem' hs.nodup hx.1) hx.2
    rw [runA, e]
    simp only [ne_eq, not_true_eq_false, if_false]
    exact runA_noop hs fun y hy => h y (List.mem_cons_of_mem _ hy)
/-- a second Sync changes nothing -/
theorem sync_twice {c : List Acc} {b : Bk} {l : List Chg} {t : Int} (h : (syncP c b l t).2 = 0) (hs : SortK b.ds) (t' : Int) : syncP c (syncP c b l t).1 l t' = ((syncP c b l t).1, 0) ∧ (syncP c b l t).1.ds.length = l.length := by
  obtain ⟨hn, h1, h2, h3⟩ := sync_facts h hs
  generalize (syncP c b l t).1 = b1 at *
  have hg : goneK b1.ds l = [] := by
    unfold goneK
    rw [List.filter_eq_nil_iff]
    intro s hs' hq
    obtain ⟨z, hz, rfl⟩ := List.mem_map.1 hs'
    rw [hasS_iff.2 (show z.key ∈ keysC l from List.mem_map.2 ⟨z, (h2 z).1 hz, rfl⟩)] at hq
    cases hq
  refine ⟨?_, ?_⟩
  · unfold syncP
    rw [if_neg (by simp [dupK, hn]), runA_noop h1 (m := sortC l) fun x hx => ⟨(h2 x).2 ((sortL_perm l).mem_iff.1 hx), h3 x ((sortL_perm l).mem_iff.1 hx)⟩]
    simp only [ne_eq, not_true_eq_false, if_false, hg, runV]
  · have nd : ∀ {m : List Chg}, (keysC m).Nodup → m.Nodup := fun hm => (List.pairwise_map.1 hm).imp fun q e => q (by rw [e])
    have a := nodup_le (nd h1.nodup) fun x hx => (h2 x).1 hx
    have b := nodup_le (nd hn) fun x hx => (h2 x).2 hx
    omega
/-! ### Balances -/
def sumAt (a : ByteArray) (l : List SI) : Int := sumL (l.filter fun p => decide (p.s = a))
theorem sumAt_cons (a : ByteArray) (p : SI) (l : List SI) : sumAt a (p :: l) = (if p.s = a then p.n else 0) + sumAt a l := by
  unfold sumAt
  by_cases h : p.s = a
  · rw [List.filter_cons, if_pos (by simpa using h), if_pos h]; simp [sumL]
  · rw [List.filter_cons, if_neg (by simpa using h), if_neg h]; omega
theorem sumAt_add (a b : ByteArray) (n : Int) (l : List SI) : sumAt a (addP l b n) = sumAt a l + if b = a then n else 0 := by
  induction l with
  | nil => rw [addP, sumAt_cons]; show (if b = a then n else 0) + sumAt a [] = _; omega
  | cons p l ih =>
    rw [addP]
    split
    · rename_i h
      rw [sumAt_cons, sumAt_cons]
      simp only
      rw [← h]
      split <;> omega
    · rw [sumAt_cons, sumAt_cons, ih]; omega
theorem sumAt_clean (a : ByteArray) (l : List SI) : sumAt a (cleanP l) = sumAt a l := by
  induction l with
  | nil => rfl
  | cons p l ih =>
    unfold cleanP at ih ⊢
    rw [List.filter_cons]
    by_cases h : p.n = 0
    · rw [if_neg (by simp [h]), ih, sumAt_cons, h]
      split <;> omega
    · rw [if_pos (by simp [h]), sumAt_cons, sumAt_cons, ih]
theorem sumAt_move (c : List Acc) (a : ByteArray) (x : Chg) (n : Int) (l : List SI) : sumAt a (moveP c l x n) = sumAt a l + ((if debC c x = a then n else 0) + (if creC x = a then -n else 0)) := by
  unfold moveP
  rw [sumAt_add, sumAt_add]
  omega
/-- what a charge gives to an account -/
def conC (c : List Acc) (a : ByteArray) (x : Chg) : Int := (if debC c x = a then x.c else 0) - (if creC x = a then x.c else 0)
def conL (c : List Acc) (a : ByteArray) (l : List Chg) : Int := (l.map (conC c a)).sum
theorem conL_cons (c : List Acc) (a : ByteArray) (x : Chg) (l : List Chg) : conL c a (x :: l) = conC c a x + conL c a l := by simp [conL]
def oldC (c : List Acc) (a : ByteArray) (o : Option Chg) : Int := match o with | some x => conC c a x | none => 0
theorem conL_put (c : List Acc) (a : ByteArray) {l : List Chg} (x : Chg) (hs : SortK l) : conL c a (putP l x) = conL c a l - oldC c a (fndC l x.key) + conC c a x := by
  induction l with
  | nil => rw [putP, conL_cons, fnd_nil]; simp only [oldC]; omega
  | cons y l ih =>
    have hs' := List.pairwise_cons.1 hs
    rw [putP, fndC_cons]
    split
    · rw [conL_cons, conL_cons]; simp only [oldC]; omega
    · split
      · rename_i hlt
        rw [conL_cons, conL_cons, fnd_no]
        · simp only [oldC]; omega
        · intro hm
          obtain ⟨z, hz, e⟩ := List.mem_map.1 hm
          have := ltB_trans hlt (hs'.1 z hz)
          rw [e, ltB_irrefl] at this; cases this
      · rw [conL_cons, conL_cons, ih hs'.2]; omega
theorem conL_del (c : List Acc) (a : ByteArray) {l : List Chg} {s : ByteArray} {o : Chg} (hs : SortK l) (h : fndC l s = some o) : conL c a (l.filter fun x => !decide (x.key = s)) = conL c a l - conC c a o := by
  induction l with
  | nil => rw [fnd_nil] at h; cases h
  | cons y l ih =>
    have hs' := List.pairwise_cons.1 hs
    rw [fndC_cons] at h
    rw [List.filter_cons]
    by_cases he : y.key = s
    · rw [if_pos he] at h
      obtain rfl := Option.some.inj h
      rw [if_neg (by simp [he]), conL_cons, List.filter_eq_self.2]
      · omega
      · intro z hz
        have := ltB_ne (hs'.1 z hz)
        rw [he] at this
        simpa using fun e => this e.symm
    · rw [if_neg he] at h
      rw [if_pos (by simp [he]), conL_cons, conL_cons, ih hs'.2 h]; omega
/-- what the entries with these keys give -/
def payB (p : ByteArray → Bool) (a : ByteArray) (es : List Ent) : Int := balL a (es.filter fun e => p e.key)
theorem balL_snocS (a : ByteArray) (es : List Ent) (e : Ent) : balL a (es ++ [e]) = balL a es + sumAt a e.ps := by
  unfold balL; rw [List.map_append, List.sum_append]; simp [balE, sumAt]
theorem payB_no {p : ByteArray → Bool} {e : Ent} (h : p e.key = false) (a : ByteArray) (es : List Ent) : payB p a (es ++ [e]) = payB p a es := by
  unfold payB; rw [List.filter_append, List.filter_cons, if_neg (by simp [h])]; simp
theorem payB_yes {p : ByteArray → Bool} {e : Ent} (h : p e.key = true) (a : ByteArray) (es : List Ent) : payB p a (es ++ [e]) = payB p a es + sumAt a e.ps := by
  unfold payB; rw [List.filter_append, List.filter_cons, if_pos h, List.filter_nil, balL_snocS]
def Bal (c : List Acc) (p : ByteArray → Bool) (b : Bk) : Prop := ∀ a, balL a b.es = conL c a b.ds + payB p a b.es
theorem enter_bal {es es' : List Ent} {k : ByteArray} {t : Int} {ps : List SI} {p : ByteArray → Bool} (h : enterL es k t ps = (es', 0)) (hk : p k = false) (a : ByteArray) : balL a es' = balL a es + sumAt a ps ∧ payB p a es' = payB p a es := by
  rcases enter_facts h with ⟨h1, rfl⟩ | ⟨rfl, -, -⟩
  · have := sumAt_clean a ps
    rw [h1] at this
    refine ⟨?_, rfl⟩
    rw [← this]; simp [sumAt, sumL]
  · exact ⟨by rw [balL_snocS, sumAt_clean], payB_no hk a es⟩
theorem sumAt_nil (a : ByteArray) : sumAt a [] = 0 := rfl
theorem bal_apply {c : List Acc} {p : ByteArray → Bool} {b : Bk} {x : Chg} (h : Bal c p b) (hs : SortK b.ds) (hp : ∀ n, p (keyC x.key n) = false) : Bal c p (applyP c b x).1 := by
  have hw := apply_ways c b x
  generalize applyP c b x = r at hw
  cases hw with
  | chk _ => exact h
  | bad _ _ _ => exact h
  | ok hc he =>
    intro a
    obtain ⟨e1, e2⟩ := enter_bal he (hp _) a
    have := h a
    simp only
    rw [e1, e2, conL_put c a x hs, this]
    unfold postsA
    cases hf : fndC b.ds x.key with
    | none =>
      simp only [oldC]
      rw [sumAt_move, sumAt_nil]
      unfold conC
      split <;> split <;> omega
    | some o =>
      simp only [oldC]
      rw [sumAt_move, sumAt_move, sumAt_nil]
      unfold conC
      repeat' split
      all_goals omega
theorem bal_void {c : List Acc} {p : ByteArray → Bool} {b : Bk} {s : ByteArray} {t : Int} (h : Bal c p b) (hs : SortK b.ds) (hp : ∀ n, s ∈ keysC b.ds → p (keyC s n) = false) : Bal c p (voidP c b s t).1 := by
  have hw := void_ways c b s t
  generalize voidP c b s t = r at hw
  cases hw with
  | none _ => exact h
  | time _ _ => exact h
  | bad _ _ _ _ => exact h
  | @ok o es' hf ht he =>
    intro a
    obtain ⟨om, ok⟩ := fnd_mem hf
    obtain ⟨e1, e2⟩ := enter_bal he (hp _ (List.mem_map.2 ⟨o, om, ok⟩)) a
    have := h a
    simp only
    rw [e1, e2, conL_del c a hs hf, this, sumAt_move, sumAt_nil]
    unfold conC
    repeat' split
    all_goals omega
theorem bal_pay {c : List Acc} {p : ByteArray → Bool} {b : Bk} {nm : ByteArray} {n t : Int} (h : Bal c p b) (hp : ∀ n, p (keyC sPay n) = true) : Bal c p (payP b nm n t).1 := by
  have hw := pay_ways b nm n t
  generalize payP b nm n t = r at hw
  cases hw with
  | bad _ => exact h
  | ok _ _ _ he =>
    obtain ⟨rfl, -, -⟩ := post_facts he
    intro a
    have := h a
    simp only
    rw [balL_snocS, payB_yes (hp _), this]
    omega
theorem bal_runA {c : List Acc} {p : ByteArray → Bool} : ∀ {m : List Chg} {b : Bk}, Bal c p b → SortK b.ds → (∀ x ∈ m, ∀ n, p (keyC x.key n) = false) → Bal c p (runA c b m).1 ∧ SortK (runA c b m).1.ds
  | [], b, h, hs, _ => by rw [runA]; exact ⟨h, hs⟩
  | x :: m, b, h, hs, hp => by
    rw [runA]
    by_cases he : (applyP c b x).2 ≠ 0
    · rw [if_pos he]; exact ⟨h, hs⟩
    rw [if_neg he]
    exact bal_runA (bal_apply h hs (hp x List.mem_cons_self)) (by rw [(apply_ds (by simpa using he)).1]; exact put_sorted hs) fun y hy => hp y (List.mem_cons_of_mem _ hy)
theorem bal_runV {c : List Acc} {p : ByteArray → Bool} {t : Int} : ∀ {m : List ByteArray} {b : Bk}, Bal c p b → SortK b.ds → (∀ s ∈ keysC b.ds, ∀ n, p (keyC s n) = false) → Bal c p (runV c t b m).1
  | [], b, h, _, _ => by rw [runV]; exact h
  | s :: m, b, h, hs, hp => by
    rw [runV]
    by_cases he : (voidP c b s t).2 ≠ 0
    · rw [if_pos he]; exact h
    rw [if_neg he]
    have hd := void_ds (c := c) (b := b) (s := s) (t := t) (by simpa using he)
    refine bal_runV (bal_void h hs fun n hm => hp s hm n) (by rw [hd]; exact List.Pairwise.filter _ hs) fun u hu => hp u ?_
    rw [hd] at hu
    obtain ⟨z, hz, rfl⟩ := List.mem_map.1 hu
    exact List.mem_map.2 ⟨z, (List.mem_filter.1 hz).1, rfl⟩
theorem bal_sync {c : List Acc} {p : ByteArray → Bool} {b : Bk} {l : List Chg} {t : Int} {L : List Chg} {N : Nat} (h : Bal c p b) (hb : BOk L N b) (hN : N + 16 ≤ 1000) (hm : ∀ x ∈ l, x ∈ L) (hl : l.length ≤ 8) (hp : ∀ x ∈ L, ∀ n, p (keyC x.key n) = false) : Bal c p (syncP c b l t).1 := by
  unfold syncP
  by_cases hd : dupK l = true
  · rw [if_pos hd]; exact h
  rw [if_neg hd]
  have hs : (sortC l).length = l.length := sortL_len l
  have hmm : ∀ x ∈ sortC l, x ∈ L := fun x hx => hm x ((sortL_perm l).mem_iff.1 hx)
  have h1 := BOk.runA (c := c) (m := sortC l) hb (by omega) hmm
  obtain ⟨h2, h3⟩ := bal_runA (c := c) (m := sortC l) h hb.sort fun x hx => hp x (hmm x hx)
  simp only
  generalize runA c b (sortC l) = r at *
  by_cases e1 : r.2 ≠ 0
  · rw [if_pos e1]; exact h
  rw [if_neg e1]
  have h4 := bal_runV (t := t) (m := goneK r.1.ds l) h2 h3 fun s hs n => by
    obtain ⟨z, hz, rfl⟩ := List.mem_map.1 hs
    exact hp z (h1.mem z hz) n
  generalize runV c t r.1 (goneK r.1.ds l) = q at *
  by_cases e2 : q.2 ≠ 0
  · rw [if_pos e2]; exact h
  rw [if_neg e2]
  exact h4
end Go.Tw.Po
/-
  Aggregates taken whole: loads, new variables and stores of structs of many cells, the cells a name. No program in sight.
-/
namespace Go.Tw
open Go.RowKit
section
variable {P : Program}
theorem run_loadA {t : TypeId} {p : Addr} {A : Array Value} {n : Nat} {w : World} (hag : ∀ w, (isAgg t).run P w = .ok true w) (hsz : ∀ w, (sizeOf t).run P w = .ok n w) (hld : Sem.run P (loadCellsFrom p 0 n #[]) w = .ok A w) :
    Sem.run P (Instr.loadAt t (.pointer (some p))) w = .ok (.agg A) w := by
  unfold Instr.loadAt Instr.sureAddr loadVar
  simp only [Sem.run_bind, Sem.run_pure, Result.andThen_ok, hag, if_true]
  simp only [Result.andThen_ok, hsz, loadCells, hld]
theorem exec_loadA {o : Oper} {a : Act} {w : World} {x : Operand} {t : TypeId} (ho : o.op = .load t x) {p : Addr} {A : Array Value} {n : Nat} (hag : ∀ w, (isAgg t).run P w = .ok true w) (hsz : ∀ w, (sizeOf t).run P w = .ok n w)
    (hx : a.eval x = .pointer (some p)) (hld : Sem.run P (loadCellsFrom p 0 n #[]) w = .ok A w) : (execOp a.eval o).run P w = .ok (.value (.agg A)) w := by
  unfold execOp
  simp only [ho, hx, Sem.run_bind, Sem.run_pure, Result.andThen_ok, run_loadA hag hsz hld]
theorem wpList_loadA {ops : Array Oper} {rest : List Oper} {o : Oper} {a : Act} {w : World} {Q : Exit → Act → World → Prop} (x : Operand) (hgd : o.guard = none) (t : TypeId) (ho : o.op = .load t x) {p : Addr} {A : Array Value} {n : Nat} (hag : ∀ w, (isAgg t).run P w = .ok true w) (hsz : ∀ w, (sizeOf t).run P w = .ok n w)
    (hx : a.eval x = .pointer (some p)) (hld : Sem.run P (loadCellsFrom p 0 n #[]) w = .ok A w) (h : wpList P ops Q rest (a.put o.dst (.agg A)) w) : wpList P ops Q (o :: rest) a w :=
  wpList_plain hgd fun _ hK => by
    unfold Oper.wp
    rw [exec_loadA ho hag hsz hx hld]
    exact hK _ _ h
/-- .. in a drawing region, quiet -/
theorem quiet_loadA {o : Oper} {a : Act} {C : World → Prop} {K : Act → Prop} {x : Operand} {t : TypeId} (ho : o.op = .load t x) {p : Addr} {A : Array Value} {n : Nat} (hag : ∀ w, (isAgg t).run P w = .ok true w) (hsz : ∀ w, (sizeOf t).run P w = .ok n w)
    (hx : a.eval x = .pointer (some p)) (hld : ∀ w, C w → Sem.run P (loadCellsFrom p 0 n #[]) w = .ok A w) (h : K (a.put o.dst (.agg A))) : o.quiet P a C K :=
  ⟨.agg A, fun w hw => by
    unfold Oper.quietAt
    rw [exec_loadA ho hag hsz hx (hld w hw)]
    exact ⟨rfl, rfl⟩, h⟩
theorem alloc_setRow (w : World) (Z A : Array Value) (t : TypeId) : (w.alloc (.cells Z t)).setRow w.heap.size A = w.alloc (.cells A t) := by
  have hb : ∀ k, ((w.alloc (.cells Z t)).setRow w.heap.size A).heap[k]? = (w.alloc (.cells A t)).heap[k]? := fun k => by
    by_cases e : k = w.heap.size
    · subst e
      rw [setRow_heap _ _ Z A t (0, 0) (heap_alloc_new _ _)]
      exact (heap_alloc_new _ _).symm
    · rw [setRow_other _ _ _ _ e]
      by_cases hk : k < w.heap.size
      · rw [Below.heap_alloc _ _ _ hk, Below.heap_alloc _ _ _ hk]
      · rw [Array.getElem?_eq_none (by simp; omega), Array.getElem?_eq_none (by simp; omega)]
  unfold World.setRow at hb ⊢
  unfold World.alloc at hb ⊢
  congr 1
  exact Array.ext_getElem? hb
theorem run_newA {t : TypeId} {n : Nat} {z : Array Value} {A : Array Value} {w : World} (hsz : ∀ w, (sizeOf t).run P w = .ok n w) (hz : z.size = n) (hA : A.size = n) (h1 : ∀ v ∈ A.toList, v.oneCell' = true) :
    Sem.run P (Instr.storeAt t (.pointer (some ⟨w.heap.size, 0, none⟩)) (.agg A)) (w.alloc (.cells z t)) = .ok () (w.alloc (.cells A t)) := by
  unfold Instr.storeAt Instr.sureAddr storeVar
  simp only [Sem.run_bind, Sem.run_pure, Result.andThen_ok, hsz, Value.cells]
  simp only [hA, ne_eq, not_true_eq_false, ↓reduceIte]
  have := run_storeCells_at P w.heap.size 0 t A.toList 0 z (w.alloc (.cells z t)) (heap_alloc_new _ _) (by simp [hA, hz]) h1
  rw [this]
  congr 1
  rw [← alloc_setRow w z A t]
  congr 1
  have e : z.size ≤ A.size := by omega
  simp [List.drop_eq_nil_of_le, e]
/-- a new variable, and a whole aggregate stored into it -/
theorem wpList_newA {ops : Array Oper} {rest : List Oper} {o1 o2 : Oper} {a : Act} {w : World} {Q : Exit → Act → World → Prop} (d : Nat) (hd : o1.dst = some d) (x : Operand) (hg1 : o1.guard = none) (hg2 : o2.guard = none) (t : TypeId) (ho1 : o1.op = .alloc t) (ho2 : o2.op = .store t (.tmp d) x) (hd2 : o2.dst = none)
    {A z : Array Value} {n : Nat} (hsz : ∀ w, (sizeOf t).run P w = .ok n w) (hzv : ∀ w, (zeroValue t).run P w = .ok (.agg z) w) (hz : z.size = n) (hA : A.size = n) (h1 : ∀ v ∈ A.toList, v.oneCell' = true)
    (hlt : d < a.tmps.size) (hx : (a.put (some d) (.pointer (some ⟨w.heap.size, 0, none⟩))).eval x = .agg A)
    (h : wpList P ops Q rest (a.put (some d) (.pointer (some ⟨w.heap.size, 0, none⟩))) (w.alloc (.cells A t))) : wpList P ops Q (o1 :: o2 :: rest) a w := by
  refine wpList_plain hg1 fun _ hK => ?_
  have e1 : (execOp a.eval o1).run P w = .ok (.value (.pointer (some ⟨w.heap.size, 0, none⟩))) (w.alloc (.cells z t)) := by
    unfold execOp
    simp only [ho1, Instr.alloc, Sem.run_bind, Sem.run_pure, Result.andThen_ok, hzv, newVar, newRow, Value.cells, run_newObj_alloc]
  unfold Oper.wp
  rw [e1]
  refine hK _ _ ?_
  rw [hd]
  refine wpList_plain hg2 fun _ hK2 => ?_
  have e2 : (execOp (a.put (some d) (.pointer (some ⟨w.heap.size, 0, none⟩))).eval o2).run P (w.alloc (.cells z t)) = .ok .skip (w.alloc (.cells A t)) := by
    unfold execOp
    have he : (a.put (some d) (.pointer (some ⟨w.heap.size, 0, none⟩))).eval (.tmp d) = .pointer (some ⟨w.heap.size, 0, none⟩) := by
      simp [Act.put, Act.eval, hlt]
    simp only [ho2, hx, he, Sem.run_bind, Sem.run_pure, Result.andThen_ok, run_newA hsz hz hA h1]
  unfold Oper.wp
  rw [e2]
  refine hK2 _ _ ?_
  rw [hd2]
  exact h
theorem foldl_set_get : ∀ (l : List Value) (k : Nat) (cs : Array Value) (t : Nat), k + l.length ≤ cs.size → ((l.zipIdx k).foldl (fun cs (p : Value × Nat) => cs.setIfInBounds (0 + p.2) p.1) cs)[t]? = if k ≤ t ∧ t < k + l.length then l[t - k]? else cs[t]?
  | [], k, cs, t, _ => by simp; omega
  | v :: l, k, cs, t, h => by
    simp only [List.length_cons] at h ⊢
    rw [List.zipIdx_cons, List.foldl_cons, foldl_set_get l (k + 1) _ t (by simp; omega)]
    simp only [Nat.zero_add]
    by_cases h1 : t = k
    · subst h1
      rw [if_neg (by omega), if_pos (by omega), Array.getElem?_setIfInBounds, if_pos rfl, if_pos (by omega)]
      simp
    · by_cases h2 : k + 1 ≤ t ∧ t < k + 1 + l.length
      · rw [if_pos h2, if_pos (by omega), show t - k = (t - (k + 1)) + 1 by omega, List.getElem?_cons_succ]
      · rw [if_neg h2, if_neg (by omega), Array.getElem?_setIfInBounds, if_neg (fun e => h1 e.symm)]
theorem foldl_set_all (A cs : Array Value) (h : A.size = cs.size) : A.zipIdx.foldl (fun cs (p : Value × Nat) => cs.setIfInBounds (0 + p.2) p.1) cs = A := by
  have e : A.zipIdx.foldl (fun cs (p : Value × Nat) => cs.setIfInBounds (0 + p.2) p.1) cs = (A.toList.zipIdx 0).foldl (fun cs (p : Value × Nat) => cs.setIfInBounds (0 + p.2) p.1) cs := by
    rw [← Array.foldl_toList, Array.toList_zipIdx]
  rw [e]
  apply Array.ext_getElem?
  intro t
  rw [foldl_set_get _ _ _ _ (by simp [h])]
  by_cases ht : t < A.size
  · rw [if_pos (by simp; omega)]; simp
  · rw [if_neg (by simp; omega), Array.getElem?_eq_none (by omega), Array.getElem?_eq_none (by omega)]
theorem run_buildA {ty e : TypeId} {n : Nat} {z A : Array Value} {w : World} (hu : P.underlying ty = some (.slice e)) (hsz : ∀ w, (sizeOf e).run P w = .ok n w) (hzv : ∀ w, (zeroValue e).run P w = .ok (.agg z) w) (hn : 0 < n) (hn2 : n ≤ 1000) (hA : A.size = n) :
    Sem.run P (Instr.buildSlice ty 1 #[(0, .agg A)]) w = .ok (.slice (some ⟨w.heap.size, 0, none⟩) 1 1) (w.alloc (.cells A e)) := by
  have hr := run_underlying (P := P) hu
  have h1 : ¬ (1 * n > 2 ^ 24) := by omega
  have h2 : ¬ (1 * n = 0) := by omega
  have hf := foldl_set_all A ((Array.range (1 * n)).map (z[· % z.size]!)) (by simp [hA])
  unfold Instr.buildSlice
  simp only [Sem.run_bind, Result.andThen_ok, hr, hsz]
  simp only [h1, h2, ↓reduceIte, Sem.run_bind, Sem.run_pure, Result.andThen_ok, hzv, Value.cells]
  have hfill : Instr.fill (fun i => some (i * n, n)) ((Array.range (1 * n)).map (z[· % z.size]!)) [(0, .agg A)] = some A := by
    unfold Instr.fill
    simp only [Value.cells, Nat.zero_mul]
    rw [if_neg (by simp [hA])]
    unfold Instr.fill
    rw [hf]
  simp only [hfill]
  simp only [Sem.run_bind, Sem.run_pure, Result.andThen_ok, newRow, run_newObj_alloc]
theorem wpList_buildA {ops : Array Oper} {rest : List Oper} {o : Oper} {a : Act} {w : World} {Q : Exit → Act → World → Prop} (x : Operand) (hgd : o.guard = none) (ty : TypeId) (ho : o.op = .buildSlice ty 1 #[(0, x)]) {e : TypeId} {n : Nat} {z A : Array Value} (hu : P.underlying ty = some (.slice e)) (hsz : ∀ w, (sizeOf e).run P w = .ok n w) (hzv : ∀ w, (zeroValue e).run P w = .ok (.agg z) w) (hn : 0 < n) (hn2 : n ≤ 1000)
    (hx : a.eval x = .agg A) (hA : A.size = n) (h : wpList P ops Q rest (a.put o.dst (.slice (some ⟨w.heap.size, 0, none⟩) 1 1)) (w.alloc (.cells A e))) : wpList P ops Q (o :: rest) a w :=
  wpList_plain hgd fun _ hK => by
    have e1 : (execOp a.eval o).run P w = .ok (.value (.slice (some ⟨w.heap.size, 0, none⟩) 1 1)) (w.alloc (.cells A e)) := by
      unfold execOp
      simp only [ho, hx, Sem.run_bind, Sem.run_pure, Result.andThen_ok, List.map_toArray, List.map_cons, List.map_nil, run_buildA hu hsz hzv hn hn2 hA]
    unfold Oper.wp
    rw [e1]
    exact hK _ _ h
end
end Go.Tw
