/-
  Layer 44 (recon) in plain Lean: the differences between two agencies.
-/
import Derived.Test.YtmjbbpappigngaaGreatExcClmP
import Derived.Maps.RangeWalk
import Derived.Maps.Ext
import Derived.Sort.KeysCollected
namespace Go.Tw.Exc
open Go.RowKit Go.Tw

structure Dif where
  key : ByteArray
  o : Int
  t : Int
def tDif : Ty Dif := (tStr.pair (tInt.pair tInt)).via fun r => (r.key, r.o, r.t)
def difCells (r : Dif) : List Value := [.string r.key, .int .i64 r.o, .int .i64 r.t]
structure DifOk (r : Dif) : Prop where
  key : r.key.size ≤ maxLen
  o : i64ok r.o
  t : i64ok r.t
theorem tDif_is {S : Nat → Prop} {w : World} {cs : List Value} {r : Dif} (h : tDif.is S w cs r) : cs = difCells r ∧ DifOk r := by
  obtain ⟨_, _, rfl, ⟨rfl, h1⟩, _, _, rfl, ⟨rfl, h2⟩, ⟨rfl, h3⟩⟩ := h
  exact ⟨rfl, h1, h2, h3⟩
theorem tDif_mk {S : Nat → Prop} {w : World} {r : Dif} (h : DifOk r) : tDif.is S w (difCells r) r :=
  ⟨[_], _, rfl, ⟨rfl, h.key⟩, [_], [_], rfl, ⟨rfl, h.o⟩, rfl, h.t⟩
theorem flatDif : tDif.Flat := fun h => by obtain ⟨rfl, h1⟩ := tDif_is h; exact tDif_mk h1
theorem dif_open {S : Nat → Prop} {w : World} {v : Value} {l : List Dif} (h : SlIs tDif S w v l) :
    ∃ ao cap b off, v = .slice ao l.length cap ∧ l.length ≤ cap ∧ cap ≤ maxLen ∧ ∀ w', SameOn S w w' → ∀ k (_ : k < l.length), ao = some ⟨b, off, none⟩ ∧ S b ∧ b < w.heap.size ∧ DifOk l[k] ∧
      w'.cell? ⟨b, off + k * 3, none⟩ = some (.string l[k].key) ∧ w'.cell? ⟨b, off + k * 3 + 1, none⟩ = some (.int .i64 l[k].o) ∧ w'.cell? ⟨b, off + k * 3 + 2, none⟩ = some (.int .i64 l[k].t) := by
  obtain ⟨ao, cap, b, off, hv, h1, h2, h3⟩ := h.openS
  refine ⟨ao, cap, b, off, hv, h1, h2, fun w' hw k hk => ?_⟩
  obtain ⟨g1, g2, g2', cs, g3, g4⟩ := h3 w' hw k hk
  obtain ⟨rfl, g5⟩ := tDif_is g4
  have q0 := g3 0 (by show 0 < 3; decide)
  have q1 := g3 1 (by show 1 < 3; decide)
  have q2 := g3 2 (by show 2 < 3; decide)
  exact ⟨g1, g2, g2', g5, q0, q1, q2⟩

/-! ### keys -/
def kb (s : ByteArray) : List UInt8 := s.data.toList
def ofB (x : List UInt8) : ByteArray := ⟨x.toArray⟩
theorem ofB_kb (s : ByteArray) : ofB (kb s) = s := by unfold ofB kb; simp
theorem kb_ofB (x : List UInt8) : kb (ofB x) = x := by unfold ofB kb; simp
theorem kb_inj {a b : ByteArray} (h : kb a = kb b) : a = b := by rw [← ofB_kb a, h, ofB_kb]
theorem find_key : ∀ {m : List Rec}, (m.map (·.key)).Nodup → ∀ {r : Rec}, r ∈ m → m.find? (fun x => decide (x.key = r.key)) = some r
  | a :: m, hn, r, hr => by
    rw [List.map_cons, List.nodup_cons] at hn
    rcases List.mem_cons.1 hr with rfl | hr
    · rw [List.find?_cons_of_pos (by simp)]
    · have hne : a.key ≠ r.key := fun e => hn.1 (e ▸ List.mem_map_of_mem hr)
      rw [List.find?_cons_of_neg (by simpa using hne)]
      exact find_key hn.2 hr
/-- the amount of a key that is there -/
def amtO (l : List Rec) (s : ByteArray) : Option Int := ((netGo l).find? fun r => decide (r.key = s)).map (·.c)
theorem amtO_perm {l l' : List Rec} (h : l'.Perm (netGo l)) (s : ByteArray) : (l'.find? fun r => decide (r.key = s)).map (·.c) = amtO l s := by
  unfold amtO
  have hn := (net_is l).nod
  cases hf : l'.find? fun r => decide (r.key = s) with
  | none =>
    rw [List.find?_eq_none] at hf
    rw [List.find?_eq_none.2 (fun r hr => hf r (h.mem_iff.2 hr))]
  | some r =>
    have hr : r ∈ netGo l := h.mem_iff.1 (List.mem_of_find?_eq_some hf)
    have hs : r.key = s := by simpa using List.find?_some hf
    rw [← hs, find_key hn hr]
theorem amtO_mem (l : List Rec) (s : ByteArray) : (amtO l s).isSome = true ↔ ∃ x ∈ l, x.key = s := by
  rw [← (net_is l).mem s]
  unfold amtO
  rw [Option.isSome_map, List.find?_isSome]
  simp
theorem amtO_amount (l : List Rec) (s : ByteArray) : (amtO l s).getD 0 = amountC l s := by
  cases h : amtO l s with
  | none =>
    have : ¬ ∃ x ∈ l, x.key = s := fun q => by have := (amtO_mem l s).2 q; rw [h] at this; cases this
    unfold amountC
    rw [List.filter_eq_nil_iff.2 (fun x hx => by simpa using fun e => this ⟨x, hx, e⟩)]
    rfl
  | some c =>
    unfold amtO at h
    rw [Option.map_eq_some_iff] at h
    obtain ⟨r, h1, rfl⟩ := h
    have hr := List.mem_of_find?_eq_some h1
    have hs : r.key = s := by simpa using List.find?_some h1
    rw [Option.getD_some, (net_is l).amt r hr, hs]
theorem isKey (x : List UInt8) : WideAt.IsKeyLit (.string x) := trivial
/-- a map's datum holds the amounts A -/
structure Holds (D : DataW Unit) (A : ByteArray → Option Int) : Prop where
  has : ∀ s, Maps.has D (.string (kb s)) = (A s).isSome
  val : ∀ s c, A s = some c → ∀ zd, D.atKey (.string (kb s)) zd = .lit (.int .i64 c)
theorem Holds.nil : Holds (.map []) (fun _ => none) := ⟨fun _ => rfl, fun _ _ h => by cases h⟩
theorem Holds.put {D : DataW Unit} {A : ByteArray → Option Int} (h : Holds D A) (hm : Maps.IsMap D) (s : ByteArray) (c : Int) : Holds (D.put (.string (kb s)) (.lit (.int .i64 c))) (fun y => if y = s then some c else A y) := by
  refine ⟨fun y => ?_, fun y d hy zd => ?_⟩
  · by_cases e : y = s
    · subst e; rw [if_pos rfl, Maps.has_put_same hm (isKey _)]; rfl
    · rw [if_neg e, Maps.has_put_other (by intro q; injection q with q; exact e (kb_inj q)), h.has]
  · by_cases e : y = s
    · subst e; rw [if_pos rfl] at hy; injection hy with hy; subst hy; rw [Maps.atKey_put_same hm (isKey _)]
    · rw [if_neg e] at hy; rw [Maps.atKey_put_other (by intro q; injection q with q; exact e (kb_inj q)), h.val y d hy]
theorem Holds.ext {D : DataW Unit} {A B : ByteArray → Option Int} (h : Holds D A) (he : ∀ s, A s = B s) : Holds D B := by
  have : A = B := funext he
  subst this; exact h
theorem Holds.get {D : DataW Unit} {A : ByteArray → Option Int} (h : Holds D A) (s : ByteArray) : D.atKey (.string (kb s)) (.lit (.int .i64 0)) = .lit (.int .i64 ((A s).getD 0)) := by
  cases e : A s with
  | none => rw [Maps.atKey_of_not_has (by rw [h.has, e]; rfl)]; rfl
  | some c => rw [h.val s c e]; rfl
/-- a map's datum has the keys B -/
def KeysIn (D : DataW Unit) (B : ByteArray → Prop) : Prop := ∀ s, Maps.has D (.string (kb s)) = true ↔ B s
theorem KeysIn.nil : KeysIn (.map []) (fun _ => False) := fun s => by
  constructor
  · intro h; exact Bool.noConfusion h
  · exact False.elim
theorem KeysIn.put {D : DataW Unit} {B : ByteArray → Prop} (h : KeysIn D B) (hm : Maps.IsMap D) (x : List UInt8) (d : DataW Unit) : KeysIn (D.put (.string x) d) (fun y => y = ofB x ∨ B y) := fun s => by
  by_cases e : s = ofB x
  · subst e; rw [kb_ofB, Maps.has_put_same hm (isKey _)]; simp
  · rw [Maps.has_put_other (by intro q; injection q with q; exact e (by rw [← q, ofB_kb])), h s]
    constructor
    · exact .inr
    · rintro (q | q)
      · exact absurd q e
      · exact q
theorem KeysIn.iff {D : DataW Unit} {B C : ByteArray → Prop} (h : KeysIn D B) (he : ∀ s, B s ↔ C s) : KeysIn D C := fun s => (h s).trans (he s)
/-- an entry has come -/
theorem KeysIn.step {D D1 : DataW Unit} {A : ByteArray → Option Int} {B : ByteArray → Prop} {left : Lit → Bool} (h : KeysIn D (fun s => B s ∨ ((A s).isSome = true ∧ left (.string (kb s)) = false))) (hm : Maps.IsMap D) (h1 : Holds D1 A) {x : List UInt8} {y : DataW Unit} (hat : ∀ zd, D1.atKey (.string x) zd = y) (d : DataW Unit) :
    KeysIn (D.put (.string x) d) (fun s => B s ∨ ((A s).isSome = true ∧ (left (.string (kb s)) && !(Lit.string (kb s)).sameKey (.string x)) = false)) := by
  refine (h.put hm x d).iff fun s => ?_
  have hsm : (Lit.string (kb s)).sameKey (.string x) = decide (s = ofB x) := by
    by_cases e : s = ofB x
    · subst e; rw [kb_ofB, WideAt.sameKey_self (isKey _)]; simp
    · rw [Maps.sameKey_ne (by intro q; injection q with q; exact e (by rw [← q, ofB_kb])), decide_eq_false e]
  have hx : (A (ofB x)).isSome = true := by rw [← h1.has, kb_ofB]; exact Maps.has_true_of_atKey hat
  rw [hsm]
  by_cases e : s = ofB x
  · subst e; simp [hx]
  · simp [e]
theorem own_size {H : Type} {P : Program} {k : TypeId} {R : Value → Option (DataW H × List MemPlace)} {w : World} {b n : Nat} {D : DataW H} (h : w.ownsMap P k R b n D) : Maps.size D ≤ n := by
  obtain ⟨es, clock, -, -, hs, rfl⟩ := h
  show (List.foldr DataW.insert [] _).length ≤ n
  rw [length_sorted]
  simpa using hs
/-- all keys of two lists, in their order -/
noncomputable def keysU (la lb : List Rec) : List ByteArray := (((fkeys (la ++ lb)).map kb).mergeSort leB).map ofB
noncomputable def differC (la lb : List Rec) : List Dif := (keysU la lb).filterMap fun s => if amountC la s = amountC lb s then none else some ⟨s, amountC la s, amountC lb s⟩
theorem keysU_kb (la lb : List Rec) : (keysU la lb).map kb = ((fkeys (la ++ lb)).map kb).mergeSort leB := by
  unfold keysU
  rw [List.map_map, show kb ∘ ofB = id from funext kb_ofB, List.map_id]
theorem sorted_keys {P : Program} {k : TypeId} {R : Value → Option (DataW Unit × List MemPlace)} {w : World} {b n : Nat} {D : DataW Unit} {la lb : List Rec} (hown : w.ownsMap P k R b n D) (hk : P.underlying k = some .string)
    (h : KeysIn D (fun s => (amtO la s).isSome = true ∨ (amtO lb s).isSome = true)) {ss : List (List UInt8)} (hss : ss.Perm (strKeys D)) : ss.mergeSort leB = (keysU la lb).map kb := by
  rw [keysU_kb]
  refine mergeSort_of_perm (hss.trans ?_)
  obtain ⟨es, hD, hpw, _⟩ := hown.entries (Maps.string_keyed hk)
  obtain ⟨es', hD', hko⟩ := hown.keysOf
  obtain rfl : es = es' := by rw [hD] at hD'; simpa using hD'
  subst hD
  refine (perm_strKeys hpw (fun p hp => by obtain ⟨v, hv⟩ := hko p hp; obtain ⟨x, _, hx, _⟩ := Maps.keyOf_str hk hv; exact ⟨x, hx⟩) ?_ (fun x => ?_)).symm
  · rw [List.Nodup, List.pairwise_map]
    exact (fkeys_nodup (la ++ lb)).imp fun hne e => hne (kb_inj e)
  · rw [show (Lit.string x) = .string (kb (ofB x)) by rw [kb_ofB], h (ofB x)]
    show _ ↔ (amtO la (ofB x)).isSome = true ∨ (amtO lb (ofB x)).isSome = true
    rw [amtO_mem, amtO_mem, List.mem_map]
    constructor
    · rintro ⟨s, hs, rfl⟩
      rw [ofB_kb]
      obtain ⟨r, hr, e⟩ := (fkeys_mem _ s).1 hs
      rcases List.mem_append.1 hr with q | q
      · exact .inl ⟨r, q, e⟩
      · exact .inr ⟨r, q, e⟩
    · intro q
      refine ⟨ofB x, (fkeys_mem _ _).2 ?_, kb_ofB x⟩
      rcases q with ⟨r, q, e⟩ | ⟨r, q, e⟩
      · exact ⟨r, by simp [q], e⟩
      · exact ⟨r, by simp [q], e⟩
end Go.Tw.Exc
