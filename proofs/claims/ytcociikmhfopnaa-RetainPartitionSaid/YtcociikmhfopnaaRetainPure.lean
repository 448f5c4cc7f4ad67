/-
  Layer 40 (retain) in plain Lean. No program in sight.
-/
import Derived.Test.YtcociikmhfopnaaMap
namespace Go.Tw.Retain
open Go.RowKit

structure Keep where
  p : Int
  s : Int
  l : Int
structure Img where
  id : ByteArray
  t : Int
  p : Int
  hold : List ByteArray
  dg : Int
def tKeep : Ty Keep := (tInt.pair (tInt.pair tInt)).via fun r => (r.p, r.s, r.l)
def tImg : Ty Img := (tStr.pair (tInt.pair (tInt.pair ((tStr.list 9).pair tU64)))).via fun r => (r.id, r.t, r.p, r.hold, r.dg)

theorem tKeep_is {S : Nat → Prop} {w : World} {cs : List Value} {r : Keep} (h : tKeep.is S w cs r) : cs = [.int .i64 r.p, .int .i64 r.s, .int .i64 r.l] ∧ i64ok r.p ∧ i64ok r.s ∧ i64ok r.l := by
  obtain ⟨_, _, rfl, ⟨rfl, h1⟩, _, _, rfl, ⟨rfl, h2⟩, ⟨rfl, h3⟩⟩ := h
  exact ⟨rfl, h1, h2, h3⟩
theorem tKeep_mk {S : Nat → Prop} {w : World} {r : Keep} (h1 : i64ok r.p) (h2 : i64ok r.s) (h3 : i64ok r.l) : tKeep.is S w [.int .i64 r.p, .int .i64 r.s, .int .i64 r.l] r :=
  ⟨[_], [_, _], rfl, ⟨rfl, h1⟩, [_], [_], rfl, ⟨rfl, h2⟩, rfl, h3⟩
/-- an image's cells: its Hold is the slice value h -/
def imgCells (i : Img) (h : Value) : List Value := [.string i.id, .int .i64 i.t, .int .i64 i.p, h, .int .u64 i.dg]
structure ImgOk (S : Nat → Prop) (w : World) (i : Img) (h : Value) : Prop where
  id : i.id.size ≤ maxLen
  t : i64ok i.t
  p : i64ok i.p
  hold : SlIs tStr S w h i.hold
  dg : 0 ≤ i.dg ∧ i.dg ≤ 18446744073709551615
theorem tImg_is {S : Nat → Prop} {w : World} {cs : List Value} {r : Img} (h : tImg.is S w cs r) : ∃ v, cs = imgCells r v ∧ ImgOk S w r v := by
  obtain ⟨_, _, rfl, ⟨rfl, h1⟩, _, _, rfl, ⟨rfl, h2⟩, _, _, rfl, ⟨rfl, h3⟩, _, _, rfl, ⟨v, rfl, h4⟩, ⟨rfl, h5⟩⟩ := h
  exact ⟨v, rfl, h1, h2, h3, h4, h5⟩
theorem tImg_mk {S : Nat → Prop} {w : World} {r : Img} {v : Value} (h : ImgOk S w r v) : tImg.is S w (imgCells r v) r :=
  ⟨[_], _, rfl, ⟨rfl, h.id⟩, [_], _, rfl, ⟨rfl, h.t⟩, [_], _, rfl, ⟨rfl, h.p⟩, [_], [_], rfl, ⟨v, rfl, h.hold⟩, rfl, h.dg⟩

theorem tImg_own {F : List Nat} {w : World} {cs : List Value} {r : Img} (h : tImg.own F w cs r) : ∃ v, cs = imgCells r v ∧ OwnL tStr 9 F w v r.hold ∧ r.id.size ≤ maxLen ∧ i64ok r.t ∧ i64ok r.p ∧ 0 ≤ r.dg ∧ r.dg ≤ 18446744073709551615 := by
  obtain ⟨_, _, _, _, rfl, rfl, ⟨rfl, rfl, h1⟩, _, _, _, _, rfl, rfl, ⟨rfl, rfl, h2⟩, _, _, _, _, rfl, rfl, ⟨rfl, rfl, h3⟩, _, _, F1, _, rfl, rfl, ⟨v, rfl, h4⟩, ⟨rfl, rfl, h5⟩⟩ := h
  exact ⟨v, rfl, by simpa using h4, h1, h2, h3, h5⟩
theorem tImg_own_mk {F : List Nat} {w : World} {r : Img} {v : Value} (h : OwnL tStr 9 F w v r.hold) (h1 : r.id.size ≤ maxLen) (h2 : i64ok r.t) (h3 : i64ok r.p) (h5 : 0 ≤ r.dg ∧ r.dg ≤ 18446744073709551615) : tImg.own F w (imgCells r v) r :=
  ⟨[_], _, [], F, rfl, rfl, ⟨rfl, rfl, h1⟩, [_], _, [], F, rfl, rfl, ⟨rfl, rfl, h2⟩, [_], _, [], F, rfl, rfl, ⟨rfl, rfl, h3⟩, [_], [_], F, [], rfl, by simp, ⟨v, rfl, h⟩, ⟨rfl, rfl, h5⟩⟩

theorem keep_open {B : Nat} {w : World} {v : Value} {l : List Keep} (h : SlIs tKeep (· < B) w v l) :
    ∃ ao cap b off, v = .slice ao l.length cap ∧ l.length ≤ cap ∧ cap ≤ maxLen ∧ ∀ w', Below B w w' → ∀ k (_ : k < l.length), ao = some ⟨b, off, none⟩ ∧ b < B ∧
      w'.cell? ⟨b, off + k * 3, none⟩ = some (.int .i64 l[k].p) ∧ w'.cell? ⟨b, off + k * 3 + 1, none⟩ = some (.int .i64 l[k].s) ∧ w'.cell? ⟨b, off + k * 3 + 2, none⟩ = some (.int .i64 l[k].l) ∧ i64ok l[k].p ∧ i64ok l[k].s ∧ i64ok l[k].l := by
  obtain ⟨ao, cap, b, off, hv, h1, h2, h3⟩ := h.openB
  refine ⟨ao, cap, b, off, hv, h1, h2, fun w' hw k hk => ?_⟩
  obtain ⟨g1, g2, cs, g3, g4⟩ := h3 w' hw k hk
  obtain ⟨rfl, g5⟩ := tKeep_is g4
  have := cells3 (f := fun j => w'.cell? ⟨b, off + k * 3 + j, none⟩) g3
  exact ⟨g1, g2, this.1, this.2.1, this.2.2, g5⟩
theorem img_open {S : Nat → Prop} {w : World} {v : Value} {l : List Img} (h : SlIs tImg S w v l) :
    ∃ ao cap b off, v = .slice ao l.length cap ∧ l.length ≤ cap ∧ cap ≤ maxLen ∧ ∀ w', SameOn S w w' → ∀ k (_ : k < l.length), ao = some ⟨b, off, none⟩ ∧ S b ∧ b < w.heap.size ∧ ∃ hv, ImgOk S w' l[k] hv ∧
      w'.cell? ⟨b, off + k * 5, none⟩ = some (.string l[k].id) ∧ w'.cell? ⟨b, off + k * 5 + 1, none⟩ = some (.int .i64 l[k].t) ∧ w'.cell? ⟨b, off + k * 5 + 2, none⟩ = some (.int .i64 l[k].p) ∧ w'.cell? ⟨b, off + k * 5 + 3, none⟩ = some hv ∧ w'.cell? ⟨b, off + k * 5 + 4, none⟩ = some (.int .u64 l[k].dg) := by
  obtain ⟨ao, cap, b, off, hv, h1, h2, h3⟩ := h.openS
  refine ⟨ao, cap, b, off, hv, h1, h2, fun w' hw k hk => ?_⟩
  obtain ⟨g1, g2, g2', cs, g3, g4⟩ := h3 w' hw k hk
  obtain ⟨hv, rfl, g5⟩ := tImg_is g4
  have := cells5 (f := fun j => w'.cell? ⟨b, off + k * 5 + j, none⟩) g3
  exact ⟨g1, g2, g2', hv, g5, this⟩
/-- strings in a slice: the cells -/
theorem strs_open {S : Nat → Prop} {w : World} {v : Value} {l : List ByteArray} (h : SlIs tStr S w v l) :
    ∃ ao cap b off, v = .slice ao l.length cap ∧ l.length ≤ cap ∧ cap ≤ maxLen ∧ ∀ w', SameOn S w w' → ∀ k (_ : k < l.length), ao = some ⟨b, off, none⟩ ∧ S b ∧ b < w.heap.size ∧
      w'.cell? ⟨b, off + k, none⟩ = some (.string l[k]) ∧ l[k].size ≤ maxLen := by
  obtain ⟨ao, cap, b, off, hv, h1, h2, h3⟩ := h.openS
  refine ⟨ao, cap, b, off, hv, h1, h2, fun w' hw k hk => ?_⟩
  obtain ⟨g1, g2, g2', cs, g3, rfl, g5⟩ := h3 w' hw k hk
  have := g3 0 (by decide)
  simp [tStr] at this
  exact ⟨g1, g2, g2', this, g5⟩

def MT : Int := 68719476736
def isT (t : Int) : Bool := decide (0 ≤ t) && decide (t < 68719476736)
def badT (r : Keep) : Bool := decide (r.s < 0) || decide (68719476736 < r.s) || decide (r.l < 0) || decide (68719476736 < r.l)
def kchk (done : List Keep) : List Keep → Int
  | [] => 0
  | r :: rest => if r.p < 1 ∨ 4 < r.p then 1 else if done.any (fun q => q.p == r.p) then 9 else if badT r then 12 else kchk (done ++ [r]) rest
def kchkAll (l : List Keep) : Int := if 4 < l.length then 3 else kchk [] l
def ruleOf (l : List Keep) (p : Int) : Option Keep := l.find? fun r => r.p == p

/-- P40.2 for valid rules -/
def untilK (im : Img) (c : Int) : Option Keep → Int × Int
  | none => (0, 10)
  | some k => if 0 < im.hold.length then (0, 32) else if c = -1 then (0, 11) else (max (im.t + k.s) (c + k.l), 0)
def untilV (l : List Keep) (im : Img) (c : Int) : Int × Int :=
  if isT im.t = false ∨ (c ≠ -1 ∧ isT c = false) then (0, 12) else untilK im c (ruleOf l im.p)
def untilC (l : List Keep) (im : Img) (c : Int) : Int × Int := if kchkAll l ≠ 0 then (0, kchkAll l) else untilV l im c

/-- one image at a time: kept, purged; an error ends it -/
def keeps (t : Int) (u : Int × Int) : Bool := u.2 == 32 || u.2 == 11 || (u.2 == 0 && decide (t < u.1))
def purgeGo (l : List Keep) (t : Int) (kept : List Img) (gone : List ByteArray) : List Img → List Int → List Img × List ByteArray × Int
  | im :: ims, c :: cs =>
    if keeps t (untilV l im c) then purgeGo l t (kept ++ [im]) gone ims cs
    else if (untilV l im c).2 = 0 then purgeGo l t kept (gone ++ [im.id]) ims cs
    else ([], [], (untilV l im c).2)
  | _, _ => (kept, gone, 0)
def purgeC (l : List Keep) (ims : List Img) (cs : List Int) (t : Int) : List Img × List ByteArray × Int :=
  if kchkAll l ≠ 0 then ([], [], kchkAll l) else if cs.length ≠ ims.length then ([], [], 1) else if isT t = false then ([], [], 12) else purgeGo l t [] [] ims cs
/-- least, found -/
def nextGo (l : List Keep) (t : Int) (least : Int) (ok : Bool) : List Img → List Int → Int × Bool
  | im :: ims, c :: cs =>
    if (untilV l im c).2 = 0 ∧ t < (untilV l im c).1 ∧ (ok = false ∨ (untilV l im c).1 < least) then nextGo l t (untilV l im c).1 true ims cs
    else nextGo l t least ok ims cs
  | _, _ => (least, ok)
def nextC (l : List Keep) (ims : List Img) (cs : List Int) (t : Int) : Int × Bool :=
  if kchkAll l ≠ 0 ∨ cs.length ≠ ims.length then (0, false) else nextGo l t 0 false ims cs

theorem kchk_step {l : List Keep} {k : Nat} (h : k < l.length) : kchk (l.take k) (l.drop k) =
    if l[k].p < 1 ∨ 4 < l[k].p then 1 else if (l.take k).any (fun q => q.p == l[k].p) then 9 else if badT l[k] then 12 else kchk (l.take (k + 1)) (l.drop (k + 1)) := by
  rw [List.drop_eq_getElem_cons h, kchk, List.take_succ_eq_append_getElem h]
theorem kchk_end {l : List Keep} {k : Nat} (h : l.length ≤ k) : kchk (l.take k) (l.drop k) = 0 := by
  rw [List.drop_eq_nil_of_le h]; rfl
theorem kchk_1 {l : List Keep} {k : Nat} (h : k < l.length) (q : l[k].p < 1 ∨ 4 < l[k].p) : kchk (l.take k) (l.drop k) = 1 := by rw [kchk_step h, if_pos q]
theorem kchk_9 {l : List Keep} {k : Nat} (h : k < l.length) (q1 : 1 ≤ l[k].p) (q2 : l[k].p ≤ 4) (q : ((l.take k).any fun q => q.p == l[k].p) = true) : kchk (l.take k) (l.drop k) = 9 := by rw [kchk_step h, if_neg (by omega), if_pos q]
theorem kchk_12 {l : List Keep} {k : Nat} (h : k < l.length) (q1 : 1 ≤ l[k].p) (q2 : l[k].p ≤ 4) (q : ((l.take k).any fun q => q.p == l[k].p) = false) (q3 : l[k].s < 0 ∨ 68719476736 < l[k].s ∨ l[k].l < 0 ∨ 68719476736 < l[k].l) : kchk (l.take k) (l.drop k) = 12 := by
  rw [kchk_step h, if_neg (by omega), if_neg (by simp [q]), if_pos (by simp [badT]; omega)]
theorem kchk_on {l : List Keep} {k : Nat} (h : k < l.length) (q1 : 1 ≤ l[k].p) (q2 : l[k].p ≤ 4) (q : ((l.take k).any fun q => q.p == l[k].p) = false) (q3 : 0 ≤ l[k].s ∧ l[k].s ≤ 68719476736 ∧ 0 ≤ l[k].l ∧ l[k].l ≤ 68719476736) : kchk (l.take k) (l.drop k) = kchk (l.take (k + 1)) (l.drop (k + 1)) := by
  rw [kchk_step h, if_neg (by omega), if_neg (by simp [q]), if_neg (by simp [badT]; omega)]
theorem kany_at {l : List Keep} {j k : Nat} {c : Int} (hjk : j < k) (hj : j < l.length) (hq : (l[j].p == c) = true) : ((l.take k).any fun p => p.p == c) = true := by
  rw [List.any_eq_true]
  exact ⟨l[j], by rw [List.mem_take_iff_getElem]; exact ⟨j, by omega, rfl⟩, hq⟩
theorem kany_on {l : List Keep} {j : Nat} {c : Int} (hj : j < l.length) (h : ((l.take j).any fun p => p.p == c) = false) (hq : (l[j].p == c) = false) : ((l.take (j + 1)).any fun p => p.p == c) = false := by
  rw [List.take_succ_eq_append_getElem hj, List.any_append, h]
  simpa using hq

/-- valid rules: each purpose once; the seconds in range -/
theorem kchk_valid : ∀ {rest done : List Keep}, kchk done rest = 0 → (∀ r ∈ rest, 1 ≤ r.p ∧ r.p ≤ 4 ∧ 0 ≤ r.s ∧ r.s ≤ 68719476736 ∧ 0 ≤ r.l ∧ r.l ≤ 68719476736 ∧ ∀ q ∈ done, q.p ≠ r.p) ∧ rest.Pairwise fun a b => a.p ≠ b.p
  | [], _, _ => ⟨fun _ h => absurd h (List.not_mem_nil), List.Pairwise.nil⟩
  | r :: rest, done, h => by
    rw [kchk] at h
    by_cases q1 : r.p < 1 ∨ 4 < r.p
    · rw [if_pos q1] at h; cases h
    rw [if_neg q1] at h
    by_cases q2 : (done.any fun q => q.p == r.p) = true
    · rw [if_pos q2] at h; cases h
    rw [if_neg q2] at h
    by_cases q3 : badT r = true
    · rw [if_pos q3] at h; cases h
    rw [if_neg q3] at h
    obtain ⟨g1, g2⟩ := kchk_valid h
    have hdone : ∀ p ∈ done, p.p ≠ r.p := by simpa using q2
    refine ⟨fun x hx => ?_, List.Pairwise.cons (fun x hx => (g1 x hx).2.2.2.2.2.2 r (by simp)) g2⟩
    rcases List.mem_cons.1 hx with rfl | hx
    · simp [badT] at q3
      exact ⟨by omega, by omega, by omega, by omega, by omega, by omega, hdone⟩
    · obtain ⟨a1, a2, a3, a4, a5, a6, a7⟩ := g1 x hx
      exact ⟨a1, a2, a3, a4, a5, a6, fun p hp => a7 p (by simp [hp])⟩
theorem valid_of {l : List Keep} (h : kchkAll l = 0) : l.length ≤ 4 ∧ (∀ r ∈ l, 0 ≤ r.s ∧ r.s ≤ 68719476736 ∧ 0 ≤ r.l ∧ r.l ≤ 68719476736) ∧ l.Pairwise fun a b => a.p ≠ b.p := by
  unfold kchkAll at h
  split at h
  · cases h
  · obtain ⟨g1, g2⟩ := kchk_valid h
    exact ⟨by omega, fun r hr => by have := g1 r hr; omega, g2⟩

/-- the program's map of rules: the last one of a purpose -/
def lastRule (l : List Keep) (p : Int) : Option Keep := l.reverse.find? fun r => r.p == p
theorem lastRule_snoc (l : List Keep) (r : Keep) (p : Int) : lastRule (l ++ [r]) p = if p = r.p then some r else lastRule l p := by
  unfold lastRule
  rw [List.reverse_append, List.reverse_singleton, List.singleton_append, List.find?_cons]
  by_cases h : p = r.p
  · subst h; simp
  · rw [if_neg h]
    have : (r.p == p) = false := by simp; omega
    rw [this]
theorem lastRule_eq {l : List Keep} (h : l.Pairwise fun a b => a.p ≠ b.p) (p : Int) : lastRule l p = ruleOf l p := by
  unfold lastRule ruleOf
  induction l with
  | nil => rfl
  | cons r l ih =>
    obtain ⟨h1, h2⟩ := List.pairwise_cons.1 h
    rw [List.reverse_cons, List.find?_append, ih h2, List.find?_cons]
    by_cases e : r.p = p
    · have hn : (l.find? fun r => r.p == p) = none := by
        rw [List.find?_eq_none]
        intro x hx
        have := h1 x hx
        simp; omega
      rw [hn]; simp [e]
    · have : (r.p == p) = false := by simpa using e
      rw [this]
      cases hf : l.find? (fun r => r.p == p) <;> (simp [this]; exact hf.symm)
theorem ruleOf_mem {l : List Keep} {p : Int} {k : Keep} (h : ruleOf l p = some k) : k ∈ l ∧ k.p = p := by
  unfold ruleOf at h
  exact ⟨List.mem_of_find?_eq_some h, by simpa using List.find?_some h⟩

/-- the first place from k on of which p holds; -1: none -/
def idxP {α : Type} (p : α → Bool) (k : Nat) : List α → Int
  | [] => -1
  | x :: r => if p x then (k : Int) else idxP p (k + 1) r
theorem idx_drop {α : Type} {p : α → Bool} {l : List α} {k : Nat} (h : k < l.length) : idxP p k (l.drop k) = if p l[k] then (k : Int) else idxP p (k + 1) (l.drop (k + 1)) := by
  rw [List.drop_eq_getElem_cons h]; rfl
theorem idx_end {α : Type} {p : α → Bool} {l : List α} {k : Nat} (h : l.length ≤ k) : idxP p k (l.drop k) = -1 := by
  rw [List.drop_eq_nil_of_le h]; rfl
theorem idx_range {α : Type} {p : α → Bool} : ∀ (l : List α) (k : Nat), idxP p k l = -1 ∨ ((k : Int) ≤ idxP p k l ∧ idxP p k l < k + l.length)
  | [], k => .inl rfl
  | x :: r, k => by
    rw [idxP]
    by_cases h : p x = true
    · rw [if_pos h, List.length_cons]; right; omega
    · rw [if_neg h]
      rcases idx_range (p := p) r (k + 1) with h1 | h1
      · exact .inl h1
      · right; rw [List.length_cons]; omega
def isId (id : ByteArray) (im : Img) : Bool := decide (im.id = id)
def isStr (s t : ByteArray) : Bool := decide (t = s)
theorem flatStr : tStr.Flat := fun h => h
theorem flatInt : tInt.Flat := fun h => h
theorem next_take {l : List Keep} {t le : Int} {ok : Bool} {ims : List Img} {cs : List Int} {k : Nat} (h : k < ims.length) (h2 : k < cs.length) (c1 : (untilV l ims[k] cs[k]).2 = 0) (c2 : t < (untilV l ims[k] cs[k]).1) (c3 : ok = false ∨ (untilV l ims[k] cs[k]).1 < le) :
    nextGo l t le ok (ims.drop k) (cs.drop k) = nextGo l t (untilV l ims[k] cs[k]).1 true (ims.drop (k + 1)) (cs.drop (k + 1)) := by
  rw [List.drop_eq_getElem_cons h, List.drop_eq_getElem_cons h2, nextGo, if_pos ⟨c1, c2, c3⟩]
theorem next_skip {l : List Keep} {t le : Int} {ok : Bool} {ims : List Img} {cs : List Int} {k : Nat} (h : k < ims.length) (h2 : k < cs.length) (c : ¬ (untilV l ims[k] cs[k]).2 = 0 ∨ ¬ t < (untilV l ims[k] cs[k]).1 ∨ (ok = true ∧ ¬ (untilV l ims[k] cs[k]).1 < le)) :
    nextGo l t le ok (ims.drop k) (cs.drop k) = nextGo l t le ok (ims.drop (k + 1)) (cs.drop (k + 1)) := by
  rw [List.drop_eq_getElem_cons h, List.drop_eq_getElem_cons h2, nextGo, if_neg]
  rintro ⟨c1, c2, c3⟩
  rcases c with c | c | ⟨c, c'⟩
  · exact c c1
  · exact c c2
  · rcases c3 with c3 | c3
    · rw [c] at c3; cases c3
    · exact c' c3
theorem next_end {l : List Keep} {t le : Int} {ok : Bool} {ims : List Img} {cs : List Int} {k : Nat} (h : ims.length ≤ k) : nextGo l t le ok (ims.drop k) (cs.drop k) = (le, ok) := by
  rw [List.drop_eq_nil_of_le h]; rfl
theorem purge_keep {l : List Keep} {t : Int} {kept : List Img} {gone : List ByteArray} {ims : List Img} {cs : List Int} {k : Nat} (h : k < ims.length) (h2 : k < cs.length) (c : keeps t (untilV l ims[k] cs[k]) = true) :
    purgeGo l t kept gone (ims.drop k) (cs.drop k) = purgeGo l t (kept ++ [ims[k]]) gone (ims.drop (k + 1)) (cs.drop (k + 1)) := by
  rw [List.drop_eq_getElem_cons h, List.drop_eq_getElem_cons h2, purgeGo, if_pos c]
theorem purge_gone {l : List Keep} {t : Int} {kept : List Img} {gone : List ByteArray} {ims : List Img} {cs : List Int} {k : Nat} (h : k < ims.length) (h2 : k < cs.length) (c : keeps t (untilV l ims[k] cs[k]) = false) (c2 : (untilV l ims[k] cs[k]).2 = 0) :
    purgeGo l t kept gone (ims.drop k) (cs.drop k) = purgeGo l t kept (gone ++ [ims[k].id]) (ims.drop (k + 1)) (cs.drop (k + 1)) := by
  rw [List.drop_eq_getElem_cons h, List.drop_eq_getElem_cons h2, purgeGo, if_neg (by rw [c]; simp), if_pos c2]
theorem purge_fail {l : List Keep} {t : Int} {kept : List Img} {gone : List ByteArray} {ims : List Img} {cs : List Int} {k : Nat} (h : k < ims.length) (h2 : k < cs.length) (c : keeps t (untilV l ims[k] cs[k]) = false) (c2 : ¬ (untilV l ims[k] cs[k]).2 = 0) :
    purgeGo l t kept gone (ims.drop k) (cs.drop k) = ([], [], (untilV l ims[k] cs[k]).2) := by
  rw [List.drop_eq_getElem_cons h, List.drop_eq_getElem_cons h2, purgeGo, if_neg (by rw [c]; simp), if_neg c2]
theorem purge_end {l : List Keep} {t : Int} {kept : List Img} {gone : List ByteArray} {ims : List Img} {cs : List Int} {k : Nat} (h : ims.length ≤ k) : purgeGo l t kept gone (ims.drop k) (cs.drop k) = (kept, gone, 0) := by
  rw [List.drop_eq_nil_of_le h]; rfl
theorem keeps_true {t : Int} {u : Int × Int} (h : u.2 = 32 ∨ u.2 = 11 ∨ (u.2 = 0 ∧ t < u.1)) : keeps t u = true := by
  unfold keeps; rcases h with h | h | ⟨h, h'⟩ <;> simp [*]
theorem keeps_false {t : Int} {u : Int × Int} (h1 : ¬ u.2 = 32) (h2 : ¬ u.2 = 11) (h3 : ¬ u.2 = 0 ∨ ¬ t < u.1) : keeps t u = false := by
  unfold keeps; rcases h3 with h3 | h3 <;> simp [h1, h2, h3]; try (intros; omega)
theorem img_of {S : Nat → Prop} {w : World} {v : Value} {l : List Img} (h : SlIs tImg S w v l) {k : Nat} (hk : k < l.length) : ∃ hv, ImgOk S w l[k] hv := by
  obtain ⟨ao, cap, b, off, hv, h1, h2, h3⟩ := img_open h
  obtain ⟨_, _, _, x, hx, _⟩ := h3 w (SameOn.refl _ _) k hk
  exact ⟨x, hx⟩

/-- P40.4: at index k -/
def holdAt (ims : List Img) (k : Nat) (reason : ByteArray) : List Img × Int :=
  match ims[k]? with
  | none => (ims, 10)
  | some im => if 0 ≤ idxP (isStr reason) 0 im.hold then (ims, 9) else if 16 ≤ im.hold.length then (ims, 3) else (ims.set k { im with hold := im.hold ++ [reason] }, 0)
def holdC (ok : Bool) (ims : List Img) (id reason : ByteArray) : List Img × Int :=
  if ok = false then (ims, 6) else if idxP (isId id) 0 ims < 0 then (ims, 10) else holdAt ims (idxP (isId id) 0 ims).toNat reason
def relAt (ims : List Img) (k : Nat) (reason : ByteArray) : List Img × Int :=
  match ims[k]? with
  | none => (ims, 10)
  | some im => if idxP (isStr reason) 0 im.hold < 0 then (ims, 10) else (ims.set k { im with hold := im.hold.eraseIdx (idxP (isStr reason) 0 im.hold).toNat }, 0)
def relC (ims : List Img) (id reason : ByteArray) : List Img × Int :=
  if idxP (isId id) 0 ims < 0 then (ims, 10) else relAt ims (idxP (isId id) 0 ims).toNat reason
end Go.Tw.Retain
