/-
  Representation of Go data in memory, typed: no program in sight. Used by every proof of this seat.
-/
import Derived.WalkKit
import Derived.WalkLawsBesides
import Derived.BigQuiet
import Derived.Deep.QuietTactic
import Derived.Deep.LoopGhost
import Derived.ProofKit
import Derived.OpenShut
import Derived.ShutString
import Derived.SizedLaws
import Derived.ChangeArms
import Derived.Lib.Hide
import Derived.Deep.Slices
namespace Go.Tw
open Go.RowKit Go.ChangeShapes Go.WideShapes

/-- two worlds hold the same blocks wherever S -/
def SameOn (S : Nat → Prop) (w w' : World) : Prop := ∀ k, S k → w'.heap[k]? = w.heap[k]?
theorem SameOn.refl (S : Nat → Prop) (w : World) : SameOn S w w := fun _ _ => rfl
theorem SameOn.trans {S : Nat → Prop} {a b c : World} (h : SameOn S a b) (k : SameOn S b c) : SameOn S a c := fun i hi => (k i hi).trans (h i hi)
theorem SameOn.mono {S S' : Nat → Prop} {a b : World} (h : SameOn S a b) (hs : ∀ k, S' k → S k) : SameOn S' a b := fun i hi => h i (hs i hi)
theorem SameOn.of_below {B : Nat} {w w' : World} (h : Below B w w') : SameOn (· < B) w w' := fun k hk => h.block k hk
theorem SameOn.cell {S : Nat → Prop} {w w' : World} (h : SameOn S w w') {b o : Nat} (hb : S b) : w'.cell? ⟨b, o, none⟩ = w.cell? ⟨b, o, none⟩ := World.cell?_of_block (w := w) (h b hb)

/-- how a type's values lie in memory: in so many cells; 'is S w cs x': the cells cs stand for x in w, through blocks of S alone -/
structure Ty (α : Type) where
  sz : Nat
  is : (Nat → Prop) → World → List Value → α → Prop
  len : ∀ {S w cs x}, is S w cs x → cs.length = sz
  keep : ∀ {S S' : Nat → Prop} {w w' cs x}, is S w cs x → (∀ k, S k → S' k) → SameOn S w w' → is S' w' cs x
  one : ∀ {S w cs x}, is S w cs x → ∀ u ∈ cs, u.oneCell' = true
  /-- the blocks F, each once, hold it, and nothing else looks at them -/
  own : List Nat → World → List Value → α → Prop
  own_is : ∀ {F w cs x}, own F w cs x → is (· ∈ F) w cs x
  own_keep : ∀ {F w w' cs x}, own F w cs x → (∀ b, b ∈ F → w'.heap[b]? = w.heap[b]?) → own F w' cs x
  own_lt : ∀ {F w cs x}, own F w cs x → ∀ b ∈ F, b < w.heap.size

theorem Ty.carry {α : Type} (T : Ty α) {S : Nat → Prop} {w w' cs x} (h : T.is S w cs x) (hs : SameOn S w w') : T.is S w' cs x := T.keep h (fun _ h => h) hs
theorem Ty.widen {α : Type} (T : Ty α) {S S' : Nat → Prop} {w cs x} (h : T.is S w cs x) (hs : ∀ k, S k → S' k) : T.is S' w cs x := T.keep h hs (SameOn.refl _ _)

theorem bl_alloc {a w : World} (h : Below a.heap.size a w) (o : Obj) : Below a.heap.size a (w.alloc o) := h.alloc h.size o
theorem bl_drewN {B : Nat} {a w : World} (h : Below B a w) (n : Nat) : Below B a (w.drewN n) := below_drewN h n
theorem bl_set {a w : World} (h : Below a.heap.size a w) {p : Addr} (u : Value) (hp : a.heap.size ≤ p.block) : Below a.heap.size a (w.setCell p u) := h.setCell hp u
/-- a result, by an equation of numbers -/
theorem ret_int {k : IntKind} {a b : Int} (h : a = b) : Ending.returned (.int k b) = .returned (.int k a) := by rw [h]
theorem ret_bool {a b : Bool} (h : a = b) : Ending.returned (.bool b) = .returned (.bool a) := by rw [h]
theorem ret_two {a b c d : Value} (h1 : c = a) (h2 : d = b) : Ending.returned (.tuple #[a, b]) = .returned (.tuple #[c, d]) := by rw [h1, h2]
theorem ret_three {a b c d e f : Value} (h1 : d = a) (h2 : e = b) (h3 : f = c) : Ending.returned (.tuple #[a, b, c]) = .returned (.tuple #[d, e, f]) := by rw [h1, h2, h3]

theorem wrap_in {x : Int} (h1 : -9223372036854775808 ≤ x) (h2 : x ≤ 9223372036854775807) : IntKind.i64.wrap x = x := IntWalk.i64_in _ ⟨h1, h2⟩

/-- an int: in range -/
def i64ok (n : Int) : Prop := -9223372036854775808 ≤ n ∧ n ≤ 9223372036854775807
def tInt : Ty Int where
  sz := 1
  is := fun _ _ cs x => cs = [.int .i64 x] ∧ i64ok x
  len := fun h => by rw [h.1]; rfl
  keep := fun h _ _ => h
  one := fun h u hu => by rw [h.1] at hu; simp at hu; subst hu; rfl
  own := fun F _ cs x => F = [] ∧ cs = [.int .i64 x] ∧ i64ok x
  own_is := fun h => h.2
  own_keep := fun h _ => h
  own_lt := fun h b hb => by rw [h.1] at hb; cases hb
def tU64 : Ty Int where
  sz := 1
  is := fun _ _ cs x => cs = [.int .u64 x] ∧ 0 ≤ x ∧ x ≤ 18446744073709551615
  len := fun h => by rw [h.1]; rfl
  keep := fun h _ _ => h
  one := fun h u hu => by rw [h.1] at hu; simp at hu; subst hu; rfl
  own := fun F _ cs x => F = [] ∧ cs = [.int .u64 x] ∧ 0 ≤ x ∧ x ≤ 18446744073709551615
  own_is := fun h => h.2
  own_keep := fun h _ => h
  own_lt := fun h b hb => by rw [h.1] at hb; cases hb
def tU8 : Ty Int where
  sz := 1
  is := fun _ _ cs x => cs = [.int .u8 x] ∧ 0 ≤ x ∧ x ≤ 255
  len := fun h => by rw [h.1]; rfl
  keep := fun h _ _ => h
  one := fun h u hu => by rw [h.1] at hu; simp at hu; subst hu; rfl
  own := fun F _ cs x => F = [] ∧ cs = [.int .u8 x] ∧ 0 ≤ x ∧ x ≤ 255
  own_is := fun h => h.2
  own_keep := fun h _ => h
  own_lt := fun h b hb => by rw [h.1] at hb; cases hb
def tBool : Ty Bool where
  sz := 1
  is := fun _ _ cs x => cs = [.bool x]
  len := fun h => by rw [h]; rfl
  keep := fun h _ _ => h
  one := fun h u hu => by rw [h] at hu; simp at hu; subst hu; rfl
  own := fun F _ cs x => F = [] ∧ cs = [.bool x]
  own_is := fun h => h.2
  own_keep := fun h _ => h
  own_lt := fun h b hb => by rw [h.1] at hb; cases hb
def tStr : Ty ByteArray where
  sz := 1
  is := fun _ _ cs x => cs = [.string x] ∧ x.size ≤ maxLen
  len := fun h => by rw [h.1]; rfl
  keep := fun h _ _ => h
  one := fun h u hu => by rw [h.1] at hu; simp at hu; subst hu; rfl
  own := fun F _ cs x => F = [] ∧ cs = [.string x] ∧ x.size ≤ maxLen
  own_is := fun h => h.2
  own_keep := fun h _ => h
  own_lt := fun h b hb => by rw [h.1] at hb; cases hb
/-- two fields, one behind the other -/
def Ty.pair {α β : Type} (T : Ty α) (U : Ty β) : Ty (α × β) where
  sz := T.sz + U.sz
  is := fun S w cs x => ∃ c d, cs = c ++ d ∧ T.is S w c x.1 ∧ U.is S w d x.2
  len := fun ⟨c, d, h, h1, h2⟩ => by rw [h, List.length_append, T.len h1, U.len h2]
  keep := fun ⟨c, d, h, h1, h2⟩ hs hw => ⟨c, d, h, T.keep h1 hs hw, U.keep h2 hs hw⟩
  one := fun ⟨c, d, h, h1, h2⟩ u hu => by
    rw [h] at hu
    rcases List.mem_append.1 hu with h' | h'
    · exact T.one h1 u h'
    · exact U.one h2 u h'
  own := fun F w cs x => ∃ c d F1 F2, cs = c ++ d ∧ F = F1 ++ F2 ∧ T.own F1 w c x.1 ∧ U.own F2 w d x.2
  own_is := fun ⟨c, d, F1, F2, h, hF, h1, h2⟩ => ⟨c, d, h, T.keep (T.own_is h1) (fun k hk => by rw [hF]; exact List.mem_append_left _ hk) (SameOn.refl _ _), U.keep (U.own_is h2) (fun k hk => by rw [hF]; exact List.mem_append_right _ hk) (SameOn.refl _ _)⟩
  own_keep := fun ⟨c, d, F1, F2, h, hF, h1, h2⟩ hw => ⟨c, d, F1, F2, h, hF, T.own_keep h1 (fun b hb => hw b (by rw [hF]; exact List.mem_append_left _ hb)), U.own_keep h2 (fun b hb => hw b (by rw [hF]; exact List.mem_append_right _ hb))⟩
  own_lt := fun ⟨c, d, F1, F2, h, hF, h1, h2⟩ b hb => by
    rw [hF] at hb
    rcases List.mem_append.1 hb with hb | hb
    · exact T.own_lt h1 b hb
    · exact U.own_lt h2 b hb
/-- a record, by its fields as a tuple -/
def Ty.via {α β : Type} (T : Ty α) (f : β → α) : Ty β where
  sz := T.sz
  is := fun S w cs x => T.is S w cs (f x)
  len := fun h => T.len h
  keep := fun h hs hw => T.keep h hs hw
  one := fun h => T.one h
  own := fun F w cs x => T.own F w cs (f x)
  own_is := fun h => T.own_is h
  own_keep := fun h hw => T.own_keep h hw
  own_lt := fun h => T.own_lt h

/-- a slice: nil, or somewhere, its elements one behind the other -/
def SlIs {α : Type} (T : Ty α) (S : Nat → Prop) (w : World) (v : Value) (l : List α) : Prop :=
  ∃ ao cap b off, v = .slice ao l.length cap ∧ l.length ≤ cap ∧ cap ≤ maxLen ∧ (ao = none → cap = 0) ∧ ∀ k (h : k < l.length), ao = some ⟨b, off, none⟩ ∧ S b ∧ b < w.heap.size ∧
    ∃ cs : List Value, (∀ j, j < T.sz → w.cell? ⟨b, off + k * T.sz + j, none⟩ = cs[j]?) ∧ T.is S w cs l[k]

theorem lt_of_cell {w : World} {a : Addr} {v : Value} (h : w.cell? a = some v) : a.block < w.heap.size := by
  rcases Nat.lt_or_ge a.block w.heap.size with h' | h'
  · exact h'
  · simp [World.cell?, Array.getElem?_eq_none h'] at h

theorem lt_of_heap {w : World} {b : Nat} {o : Obj} (h : w.heap[b]? = some o) : b < w.heap.size := by
  rcases Nat.lt_or_ge b w.heap.size with h' | h'
  · exact h'
  · simp [Array.getElem?_eq_none h'] at h

theorem SlIs.keep {α : Type} {T : Ty α} {S S' : Nat → Prop} {w w' : World} {v : Value} {l : List α} (h : SlIs T S w v l) (hs : ∀ k, S k → S' k) (hw : SameOn S w w') : SlIs T S' w' v l := by
  obtain ⟨ao, cap, b, off, hv, h1, h2, h3, h4⟩ := h
  refine ⟨ao, cap, b, off, hv, h1, h2, h3, fun k hk => ?_⟩
  obtain ⟨g1, g2, g3, cs, g4, g5⟩ := h4 k hk
  refine ⟨g1, hs _ g2, ?_, cs, fun j hj => (hw.cell g2).trans (g4 j hj), T.keep g5 hs hw⟩
  have e := hw b g2
  rcases Nat.lt_or_ge b w'.heap.size with h' | h'
  · exact h'
  · rw [Array.getElem?_eq_none h', Array.getElem?_eq_getElem g3] at e; cases e

/-- a list's elements, each by its cells -/
def AllIs {α : Type} (T : Ty α) (S : Nat → Prop) (w : World) : List (List Value) → List α → Prop
  | [], [] => True
  | cs :: css, x :: l => T.is S w cs x ∧ AllIs T S w css l
  | _, _ => False
theorem AllIs.at {α : Type} {T : Ty α} {S : Nat → Prop} {w : World} : ∀ {css : List (List Value)} {l : List α}, AllIs T S w css l → css.length = l.length ∧ ∀ k (h : k < l.length), ∃ cs, css[k]? = some cs ∧ T.is S w cs l[k] ∧ ∀ j, j < T.sz → css.flatten[k * T.sz + j]? = cs[j]?
  | [], [], _ => ⟨rfl, fun _ h => absurd h (Nat.not_lt_zero _)⟩
  | cs :: css, x :: l, h => by
    obtain ⟨h1, h2⟩ := h
    obtain ⟨e, g⟩ := AllIs.at h2
    have hl := T.len h1
    refine ⟨by simp [e], fun k hk => ?_⟩
    match k, hk with
    | 0, _ => exact ⟨cs, rfl, h1, fun j hj => by rw [List.flatten_cons, Nat.zero_mul, Nat.zero_add, List.getElem?_append_left (by omega)]⟩
    | k + 1, hk =>
      obtain ⟨cs', g1, g2, g3⟩ := g k (by simpa using hk)
      refine ⟨cs', by simpa using g1, g2, fun j hj => ?_⟩
      rw [List.flatten_cons, List.getElem?_append_right (by rw [hl, Nat.succ_mul]; omega), ← g3 j hj]
      congr 1
      rw [hl, Nat.succ_mul]; omega
  | [], _ :: _, h => h.elim
  | _ :: _, [], h => h.elim

theorem AllIs.widen {α : Type} {T : Ty α} {S S' : Nat → Prop} {w : World} : ∀ {css : List (List Value)} {l : List α}, AllIs T S w css l → (∀ k, S k → S' k) → AllIs T S' w css l
  | [], [], _, _ => trivial
  | _ :: _, _ :: _, h, hs => ⟨T.keep h.1 hs (SameOn.refl _ _), AllIs.widen h.2 hs⟩
  | [], _ :: _, h, _ => h.elim
  | _ :: _, [], h, _ => h.elim
/-- a slice over a block of known cells -/
theorem SlIs.of_block {α : Type} {T : Ty α} {S : Nat → Prop} {w : World} {b cap : Nat} {A : Array Value} {t : TypeId} {fr : Nat × Nat} {css : List (List Value)} {l : List α}
    (hb : w.heap[b]? = some (.cells A t fr)) (hA : css.flatten <+: A.toList) (h : AllIs T S w css l) (hS : S b) (hcap : l.length ≤ cap) (hm : cap ≤ maxLen) : SlIs T S w (.slice (some ⟨b, 0, none⟩) l.length cap) l := by
  refine ⟨some ⟨b, 0, none⟩, cap, b, 0, rfl, hcap, hm, fun h => (by cases h), fun k hk => ⟨rfl, hS, lt_of_heap hb, ?_⟩⟩
  obtain ⟨_, g⟩ := h.at
  obtain ⟨cs, g1, g2, g3⟩ := g k hk
  refine ⟨cs, fun j hj => ?_, g2⟩
  rw [← g3 j hj]
  obtain ⟨rest, hr⟩ := hA
  have hlt : k * T.sz + j < css.flatten.length := by
    have := g3 j hj
    rw [List.getElem?_eq_getElem (show j < cs.length by rw [T.len g2]; exact hj)] at this
    exact (List.getElem?_eq_some_iff.1 this).1
  simp only [World.cell?, hb, Nat.zero_add]
  rw [← Array.getElem?_toList, ← hr, List.getElem?_append_left hlt]
  rfl
theorem SlIs.nil {α : Type} {T : Ty α} {S : Nat → Prop} {w : World} : SlIs T S w (.slice none 0 0) ([] : List α) :=
  ⟨none, 0, 0, 0, rfl, Nat.le_refl _, Nat.zero_le _, fun _ => rfl, fun _ hk => absurd hk (Nat.not_lt_zero _)⟩
/-- the same, each by the blocks that hold it -/
def AllOwn {α : Type} (T : Ty α) (w : World) : List (List Nat) → List (List Value) → List α → Prop
  | [], [], [] => True
  | F :: Fs, cs :: css, x :: l => T.own F w cs x ∧ AllOwn T w Fs css l
  | _, _, _ => False
theorem AllOwn.is {α : Type} {T : Ty α} {w : World} : ∀ {Fs : List (List Nat)} {css : List (List Value)} {l : List α}, AllOwn T w Fs css l → AllIs T (· ∈ Fs.flatten) w css l
  | [], [], [], _ => trivial
  | F :: Fs, cs :: css, x :: l, h => by
    refine ⟨T.keep (T.own_is h.1) (fun k hk => by rw [List.flatten_cons]; exact List.mem_append_left _ hk) (SameOn.refl _ _), ?_⟩
    exact AllIs.widen (AllOwn.is h.2) (fun k hk => by rw [List.flatten_cons]; exact List.mem_append_right _ hk)
  | [], [], _ :: _, h => h.elim
  | [], _ :: _, _, h => h.elim
  | _ :: _, [], _, h => h.elim
  | _ :: _, _ :: _, [], h => h.elim
theorem AllOwn.keep {α : Type} {T : Ty α} {w w' : World} : ∀ {Fs : List (List Nat)} {css : List (List Value)} {l : List α}, AllOwn T w Fs css l → (∀ b, b ∈ Fs.flatten → w'.heap[b]? = w.heap[b]?) → AllOwn T w' Fs css l
  | [], [], [], _, _ => trivial
  | F :: Fs, cs :: css, x :: l, h, hw => ⟨T.own_keep h.1 (fun b hb => hw b (by rw [List.flatten_cons]; exact List.mem_append_left _ hb)), AllOwn.keep h.2 (fun b hb => hw b (by rw [List.flatten_cons]; exact List.mem_append_right _ hb))⟩
  | [], [], _ :: _, h, _ => h.elim
  | [], _ :: _, _, h, _ => h.elim
  | _ :: _, [], _, h, _ => h.elim
  | _ :: _, _ :: _, [], h, _ => h.elim
theorem AllOwn.lt {α : Type} {T : Ty α} {w : World} : ∀ {Fs : List (List Nat)} {css : List (List Value)} {l : List α}, AllOwn T w Fs css l → ∀ b ∈ Fs.flatten, b < w.heap.size
  | [], [], [], _, b, hb => by simp at hb
  | F :: Fs, cs :: css, x :: l, h, b, hb => by
    rw [List.flatten_cons, List.mem_append] at hb
    rcases hb with hb | hb
    · exact T.own_lt h.1 b hb
    · exact AllOwn.lt h.2 b hb
  | [], [], _ :: _, h, _, _ => h.elim
  | [], _ :: _, _, h, _, _ => h.elim
  | _ :: _, [], _, h, _, _ => h.elim
  | _ :: _, _ :: _, [], h, _, _ => h.elim
/-- a slice of the call's own, with all that it looks at: the blocks F, each for one thing -/
def OwnL {α : Type} (T : Ty α) (e : TypeId) (F : List Nat) (w : World) (v : Value) (l : List α) : Prop :=
  ∃ css Fs, w.ownsRow 0 e T.sz v l.length css.flatten ∧ AllOwn T w Fs css l ∧ F = v.ownBlock.toList ++ Fs.flatten
theorem OwnL.sl {α : Type} {T : Ty α} {e : TypeId} {F : List Nat} {w : World} {v : Value} {l : List α} (h : OwnL T e F w v l) : SlIs T (· ∈ F) w v l := by
  obtain ⟨css, Fs, h1, h2, rfl⟩ := h
  rcases h1.2 with ⟨rfl, h'⟩ | ⟨g, cap, cur, rfl, _, hg, h3, h4, _, h6⟩
  · obtain rfl : l = [] := List.eq_nil_of_length_eq_zero h'
    exact SlIs.nil
  · exact SlIs.of_block (css := css) hg ⟨cur.toList.drop (l.length * T.sz), by rw [← h6]; exact List.take_append_drop _ _⟩ (AllIs.widen h2.is (fun k hk => List.mem_append_right _ hk)) (by simp [Value.ownBlock]) h3 h4
theorem OwnL.lt {α : Type} {T : Ty α} {e : TypeId} {F : List Nat} {w : World} {v : Value} {l : List α} (h : OwnL T e F w v l) : ∀ b ∈ F, b < w.heap.size := by
  obtain ⟨css, Fs, h1, h2, rfl⟩ := h
  intro b hb
  rcases List.mem_append.1 hb with hb | hb
  · exact (h1.lt b (by simpa using hb)).2
  · exact h2.lt b hb
theorem OwnL.keep {α : Type} {T : Ty α} {e : TypeId} {F : List Nat} {w w' : World} {v : Value} {l : List α} (h : OwnL T e F w v l) (hw : ∀ b, b ∈ F → w'.heap[b]? = w.heap[b]?) : OwnL T e F w' v l := by
  obtain ⟨css, Fs, h1, h2, rfl⟩ := h
  refine ⟨css, Fs, ⟨h1.1, ?_⟩, h2.keep (fun b hb => hw b (List.mem_append_right _ hb)), rfl⟩
  rcases h1.2 with h | ⟨g, cap, cur, rfl, hb, hgg, rest⟩
  · exact .inl h
  · exact .inr ⟨g, cap, cur, rfl, hb, (hw g (by simp [Value.ownBlock])).trans hgg, rest⟩

def Ty.list {α : Type} (T : Ty α) (e : TypeId := 0) : Ty (List α) where
  sz := 1
  is := fun S w cs l => ∃ v, cs = [v] ∧ SlIs T S w v l
  len := fun ⟨_, h, _⟩ => by rw [h]; rfl
  keep := fun ⟨v, h, h1⟩ hs hw => ⟨v, h, h1.keep hs hw⟩
  one := fun ⟨v, h, _, _, _, _, hv, _⟩ u hu => by rw [h] at hu; simp at hu; subst hu; rw [hv]; rfl
  own := fun F w cs l => ∃ v, cs = [v] ∧ OwnL T e F w v l
  own_is := fun ⟨v, h, h1⟩ => ⟨v, h, h1.sl⟩
  own_keep := fun ⟨v, h, h1⟩ hw => ⟨v, h, h1.keep hw⟩
  own_lt := fun ⟨v, h, h1⟩ => h1.lt

/-- the slice, opened once: what it is in every later world -/
theorem SlIs.openS {α : Type} {T : Ty α} {S : Nat → Prop} {w : World} {v : Value} {l : List α} (h : SlIs T S w v l) :
    ∃ ao cap b off, v = .slice ao l.length cap ∧ l.length ≤ cap ∧ cap ≤ maxLen ∧ ∀ w', SameOn S w w' → ∀ k (h : k < l.length), ao = some ⟨b, off, none⟩ ∧ S b ∧ b < w.heap.size ∧
    ∃ cs : List Value, (∀ j, j < T.sz → w'.cell? ⟨b, off + k * T.sz + j, none⟩ = cs[j]?) ∧ T.is S w' cs l[k] := by
  obtain ⟨ao, cap, b, off, hv, h1, h2, h3, h4⟩ := h
  refine ⟨ao, cap, b, off, hv, h1, h2, fun w' hw k hk => ?_⟩
  obtain ⟨g1, g2, g3, cs, g4, g5⟩ := h4 k hk
  exact ⟨g1, g2, g3, cs, fun j hj => (hw.cell g2).trans (g4 j hj), T.carry g5 hw⟩

/-- .. where all lies below B -/
theorem SlIs.openB {α : Type} {T : Ty α} {B : Nat} {w : World} {v : Value} {l : List α} (h : SlIs T (· < B) w v l) :
    ∃ ao cap b off, v = .slice ao l.length cap ∧ l.length ≤ cap ∧ cap ≤ maxLen ∧ ∀ w', Below B w w' → ∀ k (h : k < l.length), ao = some ⟨b, off, none⟩ ∧ b < B ∧
    ∃ cs : List Value, (∀ j, j < T.sz → w'.cell? ⟨b, off + k * T.sz + j, none⟩ = cs[j]?) ∧ T.is (· < B) w' cs l[k] := by
  obtain ⟨ao, cap, b, off, hv, h1, h2, h4⟩ := h.openS
  refine ⟨ao, cap, b, off, hv, h1, h2, fun w' hw k hk => ?_⟩
  obtain ⟨g1, g2, g3, cs, g4, g5⟩ := h4 w' (.of_below hw) k hk
  exact ⟨g1, g2, cs, g4, g5⟩

/-! cells of one element, written out -/
theorem cells1 {f : Nat → Option Value} {a : Value} (h : ∀ j, j < 1 → f j = [a][j]?) : f 0 = some a := h 0 (by decide)
theorem cells2 {f : Nat → Option Value} {a b : Value} (h : ∀ j, j < 2 → f j = [a, b][j]?) : f 0 = some a ∧ f 1 = some b := ⟨h 0 (by decide), h 1 (by decide)⟩
theorem cells3 {f : Nat → Option Value} {a b c : Value} (h : ∀ j, j < 3 → f j = [a, b, c][j]?) : f 0 = some a ∧ f 1 = some b ∧ f 2 = some c := ⟨h 0 (by decide), h 1 (by decide), h 2 (by decide)⟩
theorem cells4 {f : Nat → Option Value} {a b c d : Value} (h : ∀ j, j < 4 → f j = [a, b, c, d][j]?) : f 0 = some a ∧ f 1 = some b ∧ f 2 = some c ∧ f 3 = some d := ⟨h 0 (by decide), h 1 (by decide), h 2 (by decide), h 3 (by decide)⟩
theorem cells5 {f : Nat → Option Value} {a b c d e : Value} (h : ∀ j, j < 5 → f j = [a, b, c, d, e][j]?) : f 0 = some a ∧ f 1 = some b ∧ f 2 = some c ∧ f 3 = some d ∧ f 4 = some e := ⟨h 0 (by decide), h 1 (by decide), h 2 (by decide), h 3 (by decide), h 4 (by decide)⟩

theorem list_of_lt {α : Type} {n : Nat} {p : Nat → α → Prop} (key : ∀ i, i < n → ∃ y, p i y) : ∃ l : List α, l.length = n ∧ ∀ i (hi : i < l.length), p i l[i] := by
  induction n with
  | zero => exact ⟨[], rfl, fun i hi => absurd hi (Nat.not_lt_zero _)⟩
  | succ n ih =>
    obtain ⟨l, h1, h2⟩ := ih (fun i hi => key i (by omega))
    obtain ⟨y, hy⟩ := key n (by omega)
    refine ⟨l ++ [y], by simp [h1], fun i hi => ?_⟩
    by_cases e : i < l.length
    · rw [List.getElem_append_left e]
      exact h2 i e
    · have : i = n := by simp [h1] at hi; omega
      subst this
      have e2 : (l ++ [y])[i]'hi = y := by simp [List.getElem_append_right, h1]
      rw [e2]
      exact hy

/-- an element of an array value, each element one cell -/
theorem run_index_one {P : Program} {t e : TypeId} {n i : Nat} {cs : Array Value} {v : Value} {d : TypeDesc} (ht : P.underlying t = some (.array n e)) (he : P.underlying e = some d)
    (hd : (match d with | .struct _ | .array _ _ => true | _ => false) = false) (hsz : (P.info? e).map (·.size) = some 1) (hi : i < n) (hv : cs[i]? = some v) (w : World) :
    (Instr.index t (.agg cs) (.int .i64 (i : Int))).run P w = .ok v w := by
  have hagg : (isAgg e).run P w = .ok false w := by
    unfold isAgg
    rw [Sem.run_bind, run_underlying he w]
    cases d <;> simp_all
  cases hq : P.info? e with
  | none => simp [hq] at hsz
  | some j =>
    have hs : j.size = 1 := by simpa [hq] using hsz
    simp [Instr.index, run_underlying ht, asIntOf, Sem.run_bind, hi, sizeOf, typeInfo, hq, hs, part, hagg, hv]

/-- ints in a slice: the cells -/
theorem ints_open {B : Nat} {w : World} {v : Value} {l : List Int} (h : SlIs tInt (· < B) w v l) :
    ∃ ao cap b off, v = .slice ao l.length cap ∧ l.length ≤ cap ∧ cap ≤ maxLen ∧ ∀ w', Below B w w' → ∀ k (_ : k < l.length), ao = some ⟨b, off, none⟩ ∧ b < B ∧
      w'.cell? ⟨b, off + k, none⟩ = some (.int .i64 l[k]) ∧ i64ok l[k] := by
  obtain ⟨ao, cap, b, off, hv, h1, h2, h3⟩ := h.openB
  refine ⟨ao, cap, b, off, hv, h1, h2, fun w' hw k hk => ?_⟩
  obtain ⟨g1, g2, cs, g3, rfl, g5⟩ := h3 w' hw k hk
  have := g3 0 (by decide)
  simp [tInt] at this
  exact ⟨g1, g2, this, g5⟩

/-- .. after a call -/
theorem SlIs.step {α : Type} {T : Ty α} {W w : World} {v : Value} {l : List α} (h : SlIs T (· < W.heap.size) W v l) (hb : Below W.heap.size W w) : SlIs T (· < w.heap.size) w v l :=
  h.keep (fun _ hk => Nat.lt_of_lt_of_le hk hb.size) (.of_below hb)
theorem bl_trans {a w w' : World} (h : Below a.heap.size a w) (h' : Below w.heap.size w w') : Below a.heap.size a w' := h.trans (h'.mono h.size)

/-! ### From the form's own reading to ours -/

section
variable {H : Type} {enc : TypeId × Value → H} {P : Program} {w : World}

/-- whatever cells the form reads at type t stand for something of T -/
def Opens {α : Type} (P : Program) (t : TypeId) (T : Ty α) : Prop :=
  ∀ (H : Type) (enc : TypeId × Value → H) (w : World) (fuel : Nat) (cs : List Value) (x : DataW H × List MemPlace), DataW.trod enc P w 0 (fun _ => true) true fuel t cs = some x → ∃ y, T.is (· < w.heap.size) w cs y

theorem wf_i64 {n : Int} (h : (Lit.int .i64 n).wf = true) : i64ok n := by simpa [Lit.wf, IntKind.min, IntKind.max, IntKind.signed, IntKind.bits, i64ok] using h
theorem wf_u64 {n : Int} (h : (Lit.int .u64 n).wf = true) : 0 ≤ n ∧ n ≤ 18446744073709551615 := by simpa [Lit.wf, IntKind.min, IntKind.max, IntKind.signed, IntKind.bits] using h
theorem wf_u8 {n : Int} (h : (Lit.int .u8 n).wf = true) : 0 ≤ n ∧ n ≤ 255 := by simpa [Lit.wf, IntKind.min, IntKind.max, IntKind.signed, IntKind.bits] using h

theorem opens_int {t : TypeId} (ht : P.underlying t = some (.int .i64)) : Opens P t tInt := fun _ _ _ _ _ _ h => by
  obtain ⟨n, rfl, _, hw⟩ := DataW.trod_int ht h
  exact ⟨n, rfl, wf_i64 hw⟩
theorem opens_u64 {t : TypeId} (ht : P.underlying t = some (.int .u64)) : Opens P t tU64 := fun _ _ _ _ _ _ h => by
  obtain ⟨n, rfl, _, hw⟩ := DataW.trod_int ht h
  exact ⟨n, rfl, wf_u64 hw⟩
theorem opens_u8 {t : TypeId} (ht : P.underlying t = some (.int .u8)) : Opens P t tU8 := fun _ _ _ _ _ _ h => by
  obtain ⟨n, rfl, _, hw⟩ := DataW.trod_int ht h
  exact ⟨n, rfl, wf_u8 hw⟩
theorem opens_bool {t : TypeId} (ht : P.underlying t = some .bool) : Opens P t tBool := fun _ _ _ _ _ _ h => by
  obtain ⟨b, rfl, _⟩ := DataW.trod_bool ht h
  exact ⟨b, rfl⟩
theorem opens_str {t : TypeId} (ht : P.underlying t = some .string) : Opens P t tStr := fun _ _ _ _ _ _ h => by
  obtain ⟨s, rfl, _, hs⟩ := DataW.trod_string ht h
  exact ⟨s, rfl, hs⟩

theorem mapM_range_get {β : Type} {f : Nat → Option β} {n : Nat} {l : List β} (h : (List.range n).mapM f = some l) (i : Nat) (hi : i < n) : f i = l[i]? := by
  exact mapM_some_get h i i (by simp [hi])

theorem cells?_get {w : World} {base : Nat} {a : Addr} {n : Nat} {cs : List Value} (h : w.cells? base a n = some cs) : cs.length = n ∧ ∀ j, j < n → w.cell? (a.add j) = cs[j]? := by
  unfold World.cells? at h
  split at h
  · exact ⟨by simpa using mapM_some_length h, fun j hj => mapM_range_get h j hj⟩
  · cases h

theorem opens_slice {α : Type} {T : Ty α} {t e : TypeId} (ht : P.underlying t = some (.slice e)) (hsz : P.cellsOf e = T.sz) (hpos : 0 < T.sz) (he : Opens P e T) {e' : TypeId} : Opens P t (T.list e') := fun H enc w fuel cs x h => by
  rcases Go.Deep.open_slice ht h with ⟨rfl, _⟩ | ⟨a, len, cap, m, n, D, Pl, rfl, _, hl, hm, hmm, _, hx⟩
  · exact ⟨[], _, rfl, none, 0, 0, 0, rfl, Nat.le_refl _, Nat.zero_le _, fun _ => rfl, fun k hk => absurd hk (Nat.not_lt_zero _)⟩
  · simp only [if_true] at hmm
    subst hmm
    have key : ∀ i, i < len → ∃ y, ∃ cs' : List Value, w.cells? 0 (a.add (i * T.sz)) T.sz = some cs' ∧ T.is (· < w.heap.size) w cs' y := fun i hi => by
      obtain ⟨cs', h1, h2⟩ := hx i (by omega)
      obtain ⟨y, hy⟩ := he _ _ _ _ _ _ h2
      rw [hsz] at h1
      exact ⟨y, cs', h1, hy⟩
    obtain ⟨l, hlen, hget⟩ := list_of_lt key
    subst hlen
    refine ⟨l, _, rfl, some a, _, a.block, a.off, rfl, hl, hm, fun h => (by cases h), fun k hk => ?_⟩
    obtain ⟨cs', h1, h2⟩ := hget k hk
    obtain ⟨g1, g2⟩ := cells?_get h1
    have h0 := g2 0 hpos
    have h0' : ∃ u, w.cell? ((a.add (k * T.sz)).add 0) = some u := ⟨cs'[0]'(by omega), by rw [h0]; exact List.getElem?_eq_getElem _⟩
    obtain ⟨u, hu⟩ := h0'
    have hblk : a.block < w.heap.size := by
      have := lt_of_cell hu
      have e : ((a.add (k * T.sz)).add 0).block = a.block := by unfold Addr.add; simp; split <;> rfl
      rwa [e] at this
    have hspot : a.spot = none := by
      obtain ⟨cs0, q1, _⟩ := hget 0 (by omega)
      obtain ⟨q3, q4⟩ := cells?_get q1
      have := q4 0 hpos
      simp [Addr.add] at this
      rw [List.getElem?_eq_getElem (by omega)] at this
      exact World.cell?_spot this
    obtain ⟨ab, ao, as⟩ := a
    simp only at hspot hblk
    subst hspot
    refine ⟨rfl, hblk, hblk, cs', fun j hj => ?_, h2⟩
    rw [← g2 j hj, Go.Deep.add_add]
    congr 1
    unfold Addr.add
    split
    · rename_i h; simp at h; simp only [h, Nat.add_zero]
    · simp

/-- fields, one behind the other from cell o on -/
inductive FieldsOpen (P : Program) : {α : Type} → Nat → List Field → Ty α → Prop
  | one {α : Type} {T : Ty α} {o : Nat} {f : Field} : f.offset = o → P.cellsOf f.type = T.sz → Opens P f.type T → FieldsOpen P o [f] T
  | cons {α β : Type} {T : Ty α} {U : Ty β} {o : Nat} {f : Field} {fs : List Field} : f.offset = o → P.cellsOf f.type = T.sz → Opens P f.type T → FieldsOpen P (o + T.sz) fs U → FieldsOpen P o (f :: fs) (T.pair U)

theorem fieldsOpen_is {α : Type} {U : Ty α} {o : Nat} {fs : List Field} (h : FieldsOpen P o fs U) : ∀ {cs : List Value} {n : Nat} {xs : List (DataW H × List MemPlace)},
    fs.length = xs.length → (∀ (i : Nat) (f : Field), fs[i]? = some f → DataW.trod enc P w 0 (fun _ => true) true n f.type ((cs.drop f.offset).take (P.cellsOf f.type)) = xs[i]?) →
    cs.length = o + U.sz → ∃ y, U.is (· < w.heap.size) w (cs.drop o) y := by
  induction h with
  | one ho hc hop =>
    intro cs n xs hx hf hl
    match xs, hx with
    | [x], _ =>
      have := hf 0 _ rfl
      rw [ho, hc, List.take_of_length_le (by simp; omega)] at this
      exact hop _ _ _ _ _ _ this
  | cons ho hc hop _ ih =>
    intro cs n xs hx hf hl
    match xs, hx with
    | x :: xs, hx =>
      have h0 := hf 0 _ rfl
      rw [ho, hc] at h0
      obtain ⟨y, hy⟩ := hop _ _ _ _ _ _ h0
      obtain ⟨z, hz⟩ := ih (by simpa using hx) (fun i f h => by simpa using hf (i + 1) f (by simpa using h)) (by simp [Ty.pair] at hl; omega)
      refine ⟨(y, z), _, _, ?_, hy, hz⟩
      rw [← List.drop_drop, List.take_append_drop]

theorem opens_struct {α : Type} {T : Ty α} {t : TypeId} {fs : Array Field} (ht : P.underlying t = some (.struct fs)) (hsz : P.cellsOf t = T.sz) (h : FieldsOpen P 0 fs.toList T) : Opens P t T := fun H enc w fuel cs x hx => by
  obtain ⟨xs, n, _, _, hl, hlen, hf⟩ := DataW.trod_struct ht hx
  obtain ⟨y, hy⟩ := fieldsOpen_is h (by simpa using hlen.symm) (fun i f hi => hf i f (by simpa using hi)) (by omega)
  exact ⟨y, by simpa using hy⟩
theorem opens_via {α β : Type} {T : Ty α} {f : β → α} (g : α → β) (hfg : ∀ x, f (g x) = x) {t : TypeId} (h : Opens P t T) : Opens P t (T.via f) := fun H enc w fuel cs x hx => by
  obtain ⟨y, hy⟩ := h _ _ _ _ _ _ hx
  exact ⟨g y, by show T.is _ _ _ (f (g y)); rw [hfg]; exact hy⟩
end


/-! ### A law's arguments -/
section
variable {H : Type} {enc : TypeId × Value → H} {P : Program} {w : World} {r : Reach} {b0 : Nat} {t : TypeId} {v : Value} {d : DataW H} {ps : List MemPlace}

theorem arg_int (ht : P.underlying t = some (.int .i64)) (hval : Value.okWide P w r b0 t v) (hd : DataW.Trod enc P w 0 (fun _ => true) true t v d ps) : ∃ n, v = .int .i64 n ∧ i64ok n := by
  obtain ⟨n, h1, _, _, h2⟩ := open_int ht hval hd
  exact ⟨n, h1, wf_i64 h2⟩
theorem arg_u64 (ht : P.underlying t = some (.int .u64)) (hval : Value.okWide P w r b0 t v) (hd : DataW.Trod enc P w 0 (fun _ => true) true t v d ps) : ∃ n, v = .int .u64 n ∧ 0 ≤ n ∧ n ≤ 18446744073709551615 := by
  obtain ⟨n, h1, _, _, h2⟩ := open_int ht hval hd
  exact ⟨n, h1, wf_u64 h2⟩
theorem arg_bool (ht : P.underlying t = some .bool) (hval : Value.okWide P w r b0 t v) (_hd : DataW.Trod enc P w 0 (fun _ => true) true t v d ps) : ∃ b, v = .bool b := okWide_bool ht hval
theorem arg_str (ht : P.underlying t = some .string) (hval : Value.okWide P w r b0 t v) (hd : DataW.Trod enc P w 0 (fun _ => true) true t v d ps) : ∃ s : ByteArray, v = .string s ∧ s.size ≤ maxLen := by
  obtain ⟨s, h1, _, _, h2⟩ := Go.ChangeMaps.open_string ht hval hd
  exact ⟨s, h1, h2⟩
theorem arg_slice {α : Type} {T : Ty α} {e : TypeId} (ht : P.underlying t = some (.slice e)) {e' : TypeId} (ho : Opens P t (T.list e')) (hval : Value.okWide P w r b0 t v) (hd : DataW.Trod enc P w 0 (fun _ => true) true t v d ps) :
    ∃ l, SlIs T (· < w.heap.size) w v l := by
  obtain ⟨fuel, h⟩ := hd
  obtain ⟨l, v', hv, hl⟩ := ho _ _ _ _ _ _ h
  obtain ⟨a, len, cap, rfl⟩ := okWide_slice ht hval
  simp [Value.cells] at hv
  exact ⟨l, hv ▸ hl⟩
theorem arg_struct {α : Type} {T : Ty α} {fs : Array Field} (ht : P.underlying t = some (.struct fs)) (ho : Opens P t T) (hval : Value.okWide P w r b0 t v) (hd : DataW.Trod enc P w 0 (fun _ => true) true t v d ps) :
    ∃ cs y, v = .agg cs ∧ T.is (· < w.heap.size) w cs.toList y := by
  obtain ⟨fuel, h⟩ := hd
  obtain ⟨y, hy⟩ := ho _ _ _ _ _ _ h
  simp only [Value.okWide, ht] at hval
  obtain ⟨cs, rfl, _⟩ := hval
  exact ⟨cs, y, rfl, hy⟩

theorem trodAll_below {W W' : World} (hl : laidOutB P = true) (hb : Below W.heap.size W W') : ∀ {ts : List TypeId} {vs : List Value} {ds : List (DataW H)} {p : List MemPlace},
    (ts.all fun t => P.readableRec t && decide (t < P.types.size)) = true → DataW.TrodAll enc P W 0 (fun _ => true) true ts vs ds p → (∀ x ∈ p, x.block < W.heap.size) →
    DataW.TrodAll enc P W' 0 (fun b => decide (b < W.heap.size)) true ts vs ds p
  | [], _, _, _, _, h, _ => by
    obtain ⟨rfl, rfl, rfl⟩ := trodAll_nil h
    exact trodAll_mk0
  | t :: ts, _, _, _, hr, h, hlt => by
    obtain ⟨v, vs1, d, ds1, a, b, rfl, rfl, rfl, h1, h2⟩ := trodAll_cons h
    simp only [List.all_cons, Bool.and_eq_true, decide_eq_true_eq] at hr
    exact trodAll_cons_mk (Below.trod hl hr.1.1 hr.1.2 h1 hb (fun x hx => hlt x (List.mem_append_left _ hx))) (trodAll_below hl hb (by simpa using hr.2) h2 (fun x hx => hlt x (List.mem_append_right _ hx)))

theorem trodAll_len {sp : Nat → Bool} {hd : Bool} {base : Nat} : ∀ {ts : List TypeId} {vs : List Value} {ds : List (DataW H)} {p : List MemPlace}, DataW.TrodAll enc P w base sp hd ts vs ds p → ds.length = ts.length
  | [], _, _, _, h => by
    obtain ⟨_, rfl, _⟩ := trodAll_nil h
    rfl
  | t :: ts, _, _, _, h => by
    obtain ⟨v, vs1, d, ds1, a, b, rfl, rfl, rfl, h1, h2⟩ := trodAll_cons h
    simp [trodAll_len h2]
end

/-- what a law's specification says: true, and the arguments read as they did -/
def LawSpec (n : Nat) (s : ChangeSpec) : Prop := s.vars = [] ∧ ∀ (H : Type) (ds : List (DataW H)), ds.length = n → (s.fn H (ds ++ [])).results = [.lit (.bool true)] ∧ (s.fn H (ds ++ [])).args = ds ∧ (s.fn H (ds ++ [])).vars = []

/-- what the walk of a law must show -/
def LawWalk (P : Program) (f : FuncId) (fn : Func) : Prop :=
  ∀ (H : Type) (enc : TypeId × Value → H) (W : World) (base : Nat) (args : Array Value) (ds : List (DataW H)) (ps : List MemPlace),
    (∀ (j : Nat) t v, fn.params[j]? = some t → args[j]? = some v → Value.okWide P W .any base t v) →
    DataW.TrodAll enc P W 0 (fun _ => true) true fn.params.toList args.toList ds ps →
    (DataW.weightsEach P fn.params.toList ds).all (· ≤ reachBytes) = true →
    Calls P f args W fun e W' => e = .returned (.bool true) ∧ Below W.heap.size W W'

theorem law_lift {C : Checked} {os : Os} {f : FuncId} {fn : Func} {s : ChangeSpec} {tb : TypeId} {H : Type} {enc : TypeId × Value → H} (hs : LawSpec fn.params.size s) (hres : fn.resultTypes = #[tb]) (htb : C.prog.underlying tb = some .bool)
    (hread : (fn.params.toList.all fun t => C.prog.readableRec t && decide (t < C.prog.types.size)) = true) (hlaid : laidOutB C.prog = true)
    (own : ownKnob C.prog.godebug = none) (started : os.Started) (noInit : C.prog.inits.idxOf? f = none) (hfn : C.prog.funcs[f]? = some fn)
    (witness : ∃ (w : World) (tape : Tape) (i : Input), w.os = os ∧ (w.forCall tape i).Shaped C.prog ∧ i.vars = [] ∧ Input.okWide C.prog (w.forCall tape i) .any w.heap.size f i ∧
      s.pre6 enc C.prog fn [] false (w.forCall tape i).memory i.args ∧ ({} : Assume).holds C.prog (lone (Frame.enter C.prog f i.args .normal) [] (w.forCall tape i)))
    (hcall : LawWalk C.prog f fn) :
    ReturnsInHanded {} C os f .any (s.pre6 enc C.prog fn [] false) (s.post enc C.prog fn false true false false) := by
  refine returnsInHanded_of_change_sized own started noInit hfn witness ?_
  intro W base args ds gs before hval hW _ hsz _
  have hW' := hW
  obtain ⟨p, q, hA, hV, rfl, _, _⟩ := hW
  rw [hs.1] at hV
  obtain ⟨rfl, rfl⟩ := trodVars_none hV
  have hvt : s.plain.varTypes C.prog = [] := by simp [ChangeSpec.plain, DataSpec.varTypes, hs.1]
  rw [hvt, List.append_nil, List.append_nil] at hsz
  refine (hcall H enc W base args ds p hval hA hsz).mono fun e W' ⟨he, hb⟩ => ?_
  have hlen : ds.length = fn.params.size := by have := trodAll_len hA; simpa using this
  obtain ⟨e1, e2, e3⟩ := hs.2 H ds hlen
  have hlt : ∀ x ∈ p, x.block < W.heap.size := fun x hx => hW'.lt x (by simpa using hx)
  refine ⟨_, he, ds, [], _, [], p, [], hW', ?_, ?_, ?_, hb.frame _, fun h => by cases h⟩
  · rw [e1, hres]
    exact trodAll_mk1 (shut_bool htb _)
  · rw [e2]
    exact trodAll_below hlaid hb hread hA hlt
  · rw [e3, hs.1]
    rfl

theorem gkA {α : Type} {xs : List α} {i : Nat} (h : i < xs.toArray.size) : xs.toArray[i] = xs[i]'(by simpa using h) := List.getElem_toArray h
theorem gkB {α : Type} (a : α) (as' : List α) (i : Nat) (h : i + 1 < (a :: as').length) : (a :: as')[i + 1] = as'[i]'(Nat.lt_of_succ_lt_succ h) := List.getElem_cons_succ a as' i h
theorem gkC {α : Type} (a : α) (as' : List α) (h : 0 < (a :: as').length) : (a :: as')[0] = a := rfl
theorem gkD {α : Type} (l : List α) (i : Nat) (a : α) : l.toArray.setIfInBounds i a = (l.set i a).toArray := by simp
theorem gkE {α : Type} {x : α} {xs : List α} {n : Nat} {a : α} : (x :: xs).set (n + 1) a = x :: xs.set n a := rfl
theorem gkF {α : Type} {x : α} {xs : List α} {a : α} : (x :: xs).set 0 a = a :: xs := rfl
end Go.Tw
