/-
  Layer proofs, merged: PoP Strs Cells PoVp PoTp Map.
-/
import Derived.Test.YtifcelebfagjbaaGreatDoorMgA
import Derived.Test.YtifcelebfagjbaaGreatDoorLib
import Derived.Sort.EncStr
import Derived.Lib.ItoaNum
import Derived.Maps.Own
import Derived.Maps.OwnOps
namespace Go.Tw.Po
open Go.RowKit Go.Sort Go.Tw.Ord
structure SI where
 s : ByteArray
 n : Int
deriving DecidableEq
instance : Inhabited SI := ⟨⟨ByteArray.empty, 0⟩⟩
def tSI : Ty SI := (tStr.pair tInt).via fun r => (r.s, r.n)
def siCells (r : SI) : List Value := [.string r.s, .int .i64 r.n]
structure SIOk (r : SI) : Prop where
 s : r.s.size ≤ maxLen
 n : i64ok r.n
theorem tSI_is {S : Nat → Prop} {w : World} {cs : List Value} {r : SI} (h : tSI.is S w cs r) : cs = siCells r ∧ SIOk r := by
 obtain ⟨_, _, rfl, ⟨rfl, h1⟩, ⟨rfl, h2⟩⟩ := h; exact ⟨rfl, h1, h2⟩
theorem tSI_mk {S : Nat → Prop} {w : World} {r : SI} (h : SIOk r) : tSI.is S w (siCells r) r := ⟨[_], [_], rfl, ⟨rfl, h.s⟩, rfl, h.n⟩
theorem tSI_own {F : List Nat} {w : World} {cs : List Value} {r : SI} (h : tSI.own F w cs r) : F = [] ∧ cs = siCells r ∧ SIOk r := by
 obtain ⟨_, _, _, _, rfl, rfl, ⟨rfl, rfl, h1⟩, ⟨rfl, rfl, h2⟩⟩ := h; exact ⟨rfl, rfl, h1, h2⟩
theorem tSI_own_mk {w : World} {r : SI} (h : SIOk r) : tSI.own [] w (siCells r) r := ⟨[_], [_], [], [], rfl, rfl, ⟨rfl, rfl, h.s⟩, rfl, rfl, h.n⟩
theorem ownSI {w w' : World} {cs : List Value} {x : SI} {S : Nat → Prop} (h : tSI.is S w cs x) : tSI.own [] w' cs x := by
 obtain ⟨rfl, hh⟩ := tSI_is h; exact tSI_own_mk hh
structure Chg where
 key : ByteArray
 veh : ByteArray
 sys : ByteArray
 cls : Int
 tm : Int
 ls : List SI
 c : Int
deriving DecidableEq
instance : Inhabited Chg := ⟨⟨ByteArray.empty, ByteArray.empty, ByteArray.empty, 0, 0, [], 0⟩⟩
def tChg (e : TypeId) : Ty Chg := (tStr.pair (tStr.pair (tStr.pair (tInt.pair (tInt.pair ((tSI.list e).pair tInt)))))).via fun r => (r.key, r.veh, r.sys, r.cls, r.tm, r.ls, r.c)
def cCells (r : Chg) (v : Value) : List Value := [.string r.key, .string r.veh, .string r.sys, .int .i64 r.cls, .int .i64 r.tm, v, .int .i64 r.c]
structure ChgOk (r : Chg) : Prop where
 key : r.key.size ≤ maxLen
 veh : r.veh.size ≤ maxLen
 sys : r.sys.size ≤ maxLen
 cls : i64ok r.cls
 tm : i64ok r.tm
 c : i64ok r.c
theorem tChg_is {e : TypeId} {S : Nat → Prop} {w : World} {cs : List Value} {r : Chg} (h : (tChg e).is S w cs r) : ∃ v, cs = cCells r v ∧ ChgOk r ∧ SlIs tSI S w v r.ls := by
 obtain ⟨_, _, rfl, ⟨rfl, h1⟩, _, _, rfl, ⟨rfl, h2⟩, _, _, rfl, ⟨rfl, h3⟩, _, _, rfl, ⟨rfl, h4⟩, _, _, rfl, ⟨rfl, h5⟩, _, _, rfl, ⟨v, rfl, h6⟩, ⟨rfl, h7⟩⟩ := h; exact ⟨v, rfl, ⟨h1, h2, h3, h4, h5, h7⟩, h6⟩
theorem tChg_mk {e : TypeId} {S : Nat → Prop} {w : World} {r : Chg} {v : Value} (h : ChgOk r) (hv : SlIs tSI S w v r.ls) : (tChg e).is S w (cCells r v) r :=
 ⟨[_], _, rfl, ⟨rfl, h.key⟩, [_], _, rfl, ⟨rfl, h.veh⟩, [_], _, rfl, ⟨rfl, h.sys⟩, [_], _, rfl, ⟨rfl, h.cls⟩, [_], _, rfl, ⟨rfl, h.tm⟩, [_], [_], rfl, ⟨v, rfl, hv⟩, rfl, h.c⟩
theorem tChg_own_mk {e : TypeId} {F : List Nat} {w : World} {r : Chg} {v : Value} (h : ChgOk r) (hv : OwnL tSI e F w v r.ls) : (tChg e).own F w (cCells r v) r :=
 ⟨[_], _, [], _, rfl, rfl, ⟨rfl, rfl, h.key⟩, [_], _, [], _, rfl, rfl, ⟨rfl, rfl, h.veh⟩, [_], _, [], _, rfl, rfl, ⟨rfl, rfl, h.sys⟩, [_], _, [], _, rfl, rfl, ⟨rfl, rfl, h.cls⟩, [_], _, [], _, rfl, rfl, ⟨rfl, rfl, h.tm⟩, [_], [_], F, [], rfl, by simp, ⟨v, rfl, hv⟩, rfl, rfl, h.c⟩
structure Ent where
 key : ByteArray
 tm : Int
 ps : List SI
deriving DecidableEq
instance : Inhabited Ent := ⟨⟨ByteArray.empty, 0, []⟩⟩
def tEnt (e : TypeId) : Ty Ent := (tStr.pair (tInt.pair (tSI.list e))).via fun r => (r.key, r.tm, r.ps)
def eCells (r : Ent) (v : Value) : List Value := [.string r.key, .int .i64 r.tm, v]
structure EntOk (r : Ent) : Prop where
 key : r.key.size ≤ maxLen
 tm : i64ok r.tm
theorem tEnt_is {e : TypeId} {S : Nat → Prop} {w : World} {cs : List Value} {r : Ent} (h : (tEnt e).is S w cs r) : ∃ v, cs = eCells r v ∧ EntOk r ∧ SlIs tSI S w v r.ps := by
 obtain ⟨_, _, rfl, ⟨rfl, h1⟩, _, _, rfl, ⟨rfl, h2⟩, ⟨v, rfl, h3⟩⟩ := h; exact ⟨v, rfl, ⟨h1, h2⟩, h3⟩
theorem tEnt_mk {e : TypeId} {S : Nat → Prop} {w : World} {r : Ent} {v : Value} (h : EntOk r) (hv : SlIs tSI S w v r.ps) : (tEnt e).is S w (eCells r v) r :=
 ⟨[_], _, rfl, ⟨rfl, h.key⟩, [_], [_], rfl, ⟨rfl, h.tm⟩, v, rfl, hv⟩
theorem tEnt_own_mk {e : TypeId} {F : List Nat} {w : World} {r : Ent} {v : Value} (h : EntOk r) (hv : OwnL tSI e F w v r.ps) : (tEnt e).own F w (eCells r v) r :=
 ⟨[_], _, [], _, rfl, rfl, ⟨rfl, rfl, h.key⟩, [_], [_], [], F, rfl, rfl, ⟨rfl, rfl, h.tm⟩, v, rfl, hv⟩
/-! ### The order of charges -/
def chgC (a b : Chg) : Int := orL [cmpI a.tm b.tm, cmpS a.key b.key]
theorem chgC_cmp : Cmp chgC := by
 have := Cmp.orL (fs := [fun a b : Chg => cmpI a.tm b.tm, fun a b : Chg => cmpS a.key b.key]) (fun f hf => by
  simp only [List.mem_cons, List.not_mem_nil, or_false] at hf
  rcases hf with rfl | rfl
  · exact cmpI_cmp.on Chg.tm
  · exact cmpS_cmp.on Chg.key)
 exact this
/-! ### What the functions compute: price, ledger -/
def fitsM (n : Int) : Bool := decide (-1125899906842624 ≤ n) && decide (n ≤ 1125899906842624)
def sumL (l : List SI) : Int := (l.map SI.n).sum
def chkC (x : Chg) : Int :=
 if x.key.size = 0 ∨ x.veh.size = 0 then 6 else if x.cls < 0 ∨ 9 < x.cls then 20 else if x.tm < 0 ∨ 68719476736 < x.tm then 12
 else if (x.ls.all fun l => fitsM l.n) = false then 13 else if x.c < 0 ∨ 1125899906842624 < x.c then 13 else if x.c ≠ sumL x.ls then 8 else 0
end Go.Tw.Po
namespace Go.Tw
open Go.RowKit
theorem strs_open {S : Nat → Prop} {w : World} {v : Value} {l : List ByteArray} (h : SlIs tStr S w v l) :
  ∃ ao cap b off, v = .slice ao l.length cap ∧ l.length ≤ cap ∧ cap ≤ maxLen ∧ ∀ w', SameOn S w w' → ∀ k (_ : k < l.length), ao = some ⟨b, off, none⟩ ∧ S b ∧ b < w.heap.size ∧
   w'.cell? ⟨b, off + k, none⟩ = some (.string l[k]) ∧ l[k].size ≤ maxLen := by
 obtain ⟨ao, cap, b, off, hv, h1, h2, h3⟩ := h.openS; refine ⟨ao, cap, b, off, hv, h1, h2, fun w' hw k hk => ?_⟩; obtain ⟨g1, g2, g2', cs, g3, rfl, g5⟩ := h3 w' hw k hk; have := g3 0 (by decide); simp [tStr] at this; exact ⟨g1, g2, g2', this, g5⟩
end Go.Tw
namespace Go.Tw
open Go.RowKit
section
variable {α : Type} {enc : α → Value}
def CellsE (enc : α → Value) (w : World) (g : Nat) (l : List α) : Prop := ∃ A t, w.heap[g]? = some (.cells A t (0, 0)) ∧ ∀ k (h : k < l.length), A[k]? = some (enc l[k])
theorem CellsE.lt {w : World} {g : Nat} {l : List α} (h : CellsE enc w g l) : g < w.heap.size := by
 obtain ⟨A, t, h, -⟩ := h; exact lt_of_heap h
theorem CellsE.cell {w : World} {g : Nat} {l : List α} (h : CellsE enc w g l) {k : Nat} (hk : k < l.length) : w.cell? ⟨g, k, none⟩ = some (enc l[k]) := by
 obtain ⟨A, t, h1, h2⟩ := h; simp only [World.cell?, h1]; exact h2 k hk
theorem CellsE.free {w : World} {g : Nat} {l : List α} (h : CellsE enc w g l) (k : Nat) : w.frozen? ⟨g, k, none⟩ = false := by
 obtain ⟨A, t, h1, h2⟩ := h; simp only [World.frozen?, h1]; simp
end
abbrev Cells := CellsE (Value.int .i64)
abbrev Flags := CellsE Value.bool
end Go.Tw
namespace Go.Tw.Po
open Go.RowKit Go.Tw Go.Sort Go.Tw.Ord
open Go.Proofs (encStr)
abbrev leK : List UInt8 → List UInt8 → Bool := fun x y => decide (x ≤ y)
def kb (s : ByteArray) : List UInt8 := s.data.toList
def ofB (x : List UInt8) : ByteArray := ⟨x.toArray⟩
theorem ofB_kb (s : ByteArray) : ofB (kb s) = s := by unfold ofB kb; simp
theorem kb_ofB (x : List UInt8) : kb (ofB x) = x := by unfold ofB kb; simp
theorem kb_inj {a b : ByteArray} (h : kb a = kb b) : a = b := by rw [← ofB_kb a, h, ofB_kb]
theorem lt_kb : ∀ x y : List UInt8, x < y ↔ ltL (x.map fun c => (c.toNat : Int)) (y.map fun c => (c.toNat : Int)) = true
 | [], [] => by simp [ltL]
 | [], _ :: _ => by simp [ltL]
 | _ :: _, [] => by simp [ltL]
 | a :: x, b :: y => by
  rw [List.cons_lt_cons_iff, lt_kb x y, List.map_cons, List.map_cons, ltL]
  by_cases h : a = b
  · subst h
    simp
  · have h' : ¬ (a.toNat : Int) = (b.toNat : Int) := fun q => h (UInt8.toNat_inj.mp (by omega))
    rw [if_neg h']; simp [h, UInt8.lt_iff_toNat_lt]
def hasS (O : List ByteArray) (p : ByteArray) : Bool := O.any fun u => decide (p = u)
theorem hasS_iff {O : List ByteArray} {p : ByteArray} : hasS O p = true ↔ p ∈ O := by
 unfold hasS; rw [List.any_eq_true]
 constructor
 · rintro ⟨u, hu, h⟩
   rw [decide_eq_true_eq] at h; exact h ▸ hu
 · exact fun h => ⟨p, h, by simp⟩
theorem hasS_no {O : List ByteArray} {p : ByteArray} : hasS O p = false ↔ p ∉ O := by rw [← Bool.not_eq_true, hasS_iff]
def seenM (O : List ByteArray) (p : ByteArray) : Option Value := if hasS O p = true then some (.bool true) else none
theorem seenM_get (O : List ByteArray) (p : ByteArray) : (seenM O p).getD (.bool false) = .bool (hasS O p) := by
 unfold seenM
 cases h : hasS O p
 · rfl
 · rfl
theorem seenM_put (O : List ByteArray) (c p : ByteArray) : (if p = c then some (Value.bool true) else seenM O p) = seenM (O ++ [c]) p := by
 unfold seenM hasS; rw [List.any_append]
 by_cases h : p = c
 · simp [h]
 · rw [if_neg h]
   simp only [List.any_cons, List.any_nil, decide_eq_false h, Bool.or_false]
theorem own_strs {e : TypeId} {B : Nat} {w : World} {v : Value} {l : List ByteArray} (h : OwnSl tStr e B w v l) :
  (v = .slice none 0 0 ∧ l = []) ∨ ∃ g cap, v = .slice (some ⟨g, 0, none⟩) l.length cap ∧ l.length ≤ cap ∧ cap ≤ maxLen ∧ B ≤ g ∧ CellsE Value.string w g l ∧ ∀ x ∈ l, x.size ≤ maxLen := by
 have hsl := h.sl; obtain ⟨css, h1, h2⟩ := h
 rcases h1.2 with ⟨rfl, h'⟩ | ⟨g, cap, cur, rfl, hB, hg, h3, h4, _, h6⟩
 · exact .inl ⟨rfl, List.eq_nil_of_length_eq_zero h'⟩
 · obtain ⟨ao, cap', b, off, hv, q1, q2, ho⟩ := strs_open hsl
   simp only [Value.slice.injEq] at hv; obtain ⟨rfl, -, rfl⟩ := hv; refine .inr ⟨g, cap, rfl, h3, h4, hB, ⟨cur, _, hg, fun j hj => ?_⟩, fun x hx => ?_⟩
   · obtain ⟨e, -, -, e2, -⟩ := ho w (SameOn.refl _ _) j hj
     simp only [Option.some.injEq, Addr.mk.injEq, and_true] at e; obtain ⟨rfl, rfl⟩ := e; simp only [World.cell?, hg, Nat.zero_add] at e2; exact e2
   · obtain ⟨j, hj, rfl⟩ := List.getElem_of_mem hx
     exact (ho w (SameOn.refl _ _) j hj).2.2.2.2
theorem enc_kb (s : ByteArray) : encStr (kb s) = .string s := by
 unfold encStr kb; simp
theorem holdsS {w : World} {g : Nat} {l : List ByteArray} (h : CellsE Value.string w g l) : Holds encStr w g 0 (l.map kb).toArray := fun j hj => by
 have hj' : j < l.length := by simpa using hj
 refine ⟨?_, h.free _⟩; rw [Nat.zero_add, h.cell hj', getElem!_pos (l.map kb).toArray j hj]; simp [enc_kb]
theorem slS_of {w : World} {g n cap : Nat} {l : List (List UInt8)} (h : Holds encStr w g 0 l.toArray) (hg : g < w.heap.size) (hn : l.length = n) (hc : n ≤ cap) (hm : cap ≤ maxLen) (hok : ∀ x ∈ l, (ofB x).size ≤ maxLen) : SlIs tStr (· < w.heap.size) w (.slice (some ⟨g, 0, none⟩) n cap) (l.map ofB) := by
 subst hn; refine ⟨some ⟨g, 0, none⟩, cap, g, 0, by rw [List.length_map], by rw [List.length_map]; exact hc, hm, fun e => (by cases e), fun k hk => ?_⟩; have hk' : k < l.length := by simpa using hk
 refine ⟨rfl, hg, hg, [.string (ofB l[k])], fun j hj => ?_, by rw [List.getElem_map]; exact ⟨rfl, hok _ (List.getElem_mem hk')⟩⟩
 obtain rfl : j = 0 := by
  have : j < 1 := hj
  omega
 have := (h k (by simpa using hk')).1; rw [getElem!_pos l.toArray k (by simpa using hk')] at this
 show w.cell? ⟨g, 0 + k * 1 + 0, none⟩ = _
 rw [show 0 + k * 1 + 0 = 0 + k by omega, this]; simp [ofB]
end Go.Tw.Po
namespace Go.Tw.Po
open Go.RowKit Go.Tw Go.Sort Go.Tw.Ord
def lw (i : Nat) (c : Int) : Int := if i % 2 = 0 then (if 9 < 2 * (c - 48) then 2 * (c - 48) - 9 else 2 * (c - 48)) else c - 48
def luhnN (s : ByteArray) : Nat → Int
 | 0 => 0
 | k + 1 => luhnN s k + (if h : k < s.size then lw k s[k].toNat else 0)
theorem luhn_next (s : ByteArray) {k : Nat} (h : k < s.size) : luhnN s (k + 1) = luhnN s k + lw k s[k].toNat := by rw [luhnN, dif_pos h]
def digP (s : ByteArray) : Prop := ∀ i (h : i < s.size), 48 ≤ s[i].toNat ∧ s[i].toNat ≤ 57
theorem lw_bounds {i : Nat} {c : Int} (h1 : 48 ≤ c) (h2 : c ≤ 57) : 0 ≤ lw i c ∧ lw i c ≤ 9 := by
 unfold lw
 split
 · split <;> omega
 · omega
theorem luhn_bounds {s : ByteArray} (h : digP s) : ∀ k, k ≤ s.size → 0 ≤ luhnN s k ∧ luhnN s k ≤ 9 * k
 | 0, _ => by unfold luhnN; omega
 | k + 1, hk => by
  have h1 := luhn_bounds h k (by omega); have h2 := h k (by omega); have h3 := lw_bounds (i := k) (c := s[k].toNat) (by omega) (by omega); rw [luhn_next s (by omega)]
  omega
def tagP (s : ByteArray) : Prop := digP s ∧ s.size = 12 ∧ luhnN s s.size % 10 = 0
open Classical in
noncomputable def tagE (e : Int) (s : ByteArray) : Int := if tagP s then 0 else e
theorem tag_yes {e : Int} {s : ByteArray} (h : tagP s) : tagE e s = 0 := by unfold tagE; rw [if_pos h]
theorem tag_no {e : Int} {s : ByteArray} (h : ¬ tagP s) : tagE e s = e := by unfold tagE; rw [if_neg h]
def fmtS (n : Int) : ByteArray := ofB (Lib.itoa n)
def digsTo (a : Nat) (s : List UInt8) : List UInt8 := if a = 0 then s else Lib.decDigits a ++ s
theorem digs_next {a : Nat} (h : a ≠ 0) (s : List UInt8) : digsTo a s = digsTo (a / 10) (UInt8.ofNat (48 + a % 10) :: s) := by
 unfold digsTo; rw [if_neg h]
 by_cases h2 : a < 10
 · rw [Lib.decDigits_one h2, if_pos (by omega), Nat.mod_eq_of_lt h2]
   rfl
 · rw [if_neg (by omega)]
   conv => lhs; rw [Lib.decDigits, dif_neg h2]
   rw [List.append_assoc]
   rfl
theorem fmt_zero : fmtS 0 = ofB [48] := by
 unfold fmtS Lib.itoa; rw [if_neg (by decide), show (0 : Int).toNat = 0 from rfl, Lib.decDigits_one (by decide)]
 rfl
theorem fmt_pos {n : Int} {s : List UInt8} (h0 : n ≠ 0) (h1 : ¬ n < 0) (h : digsTo n.natAbs [] = digsTo 0 s) : fmtS n = ofB s := by
 unfold fmtS Lib.itoa; rw [if_neg h1]; unfold digsTo at h; rw [if_neg (by omega), if_pos rfl, List.append_nil] at h; rw [← h]
 congr 2
 omega
theorem fmt_neg {n : Int} {s : List UInt8} (h1 : n < 0) (h : digsTo n.natAbs [] = digsTo 0 s) : fmtS n = ofB (45 :: s) := by
 unfold fmtS Lib.itoa; rw [if_pos h1]; unfold digsTo at h; rw [if_neg (by omega), if_pos rfl, List.append_nil] at h; rw [h]
end Go.Tw.Po
namespace Go.Tw
open Go.RowKit
structure KeyTy (κ : Type) [DecidableEq κ] where
 val : κ → Value
 d : TypeDesc
 plain : ∀ (P : Program) (kt : TypeId) (b : Bool) (w : World) (x : κ), P.underlying kt = some d → (Instr.checkKey b 10000 kt (val x)).run P w = .ok () w
 same : ∀ a b, Instr.sameNow d (val a) (val b) = some (decide (a = b))
 bits : ∀ a, Instr.sameBits 10000 (val a) (val a) = true
 inj : ∀ a b, val a = val b → a = b
def kInt : KeyTy Int where
 val := .int .i64
 d := .int .i64
 plain := fun P kt b w x h => by rw [show (10000 : Nat) = 9999 + 1 from rfl, Instr.checkKey]; simp [run_underlying h]
 same := fun a b => by simp only [Instr.sameNow, if_true]; by_cases h : a = b <;> simp [h]
 bits := fun a => by simp [Instr.sameBits]
 inj := fun a b h => by simpa using h
theorem bytes_beq_eq (a b : ByteArray) : (a == b) = decide (a = b) := by
 by_cases h : a = b
 · rw [decide_eq_true h]; exact (MapKept.bytes_beq a b).2 h
 · rw [decide_eq_false h]
   cases e : a == b with
   | false => rfl
   | true => exact absurd ((MapKept.bytes_beq a b).1 e) h
theorem str_eq (a b : ByteArray) : (a.toList == b.toList) = decide (a = b) := by rw [← bytes_beq_eq, beq_toListBytes]
def kStr : KeyTy ByteArray where
 val := .string
 d := .string
 plain := fun P kt b w x h => by rw [show (10000 : Nat) = 9999 + 1 from rfl, Instr.checkKey]; simp [run_underlying h]
 same := fun a b => by simp only [Instr.sameNow, bytes_beq_eq]
 bits := fun a => by rw [show (10000 : Nat) = 9999 + 1 from rfl]; simp [Instr.sameBits, bytes_beq_eq]
 inj := fun a b h => by simpa using h
section
variable {κ : Type} [DecidableEq κ] {K : KeyTy κ} {P : Program} {w : World} {b n : Nat} {f : κ → Option Value}
def MapIs (K : KeyTy κ) (w : World) (b : Nat) (f : κ → Option Value) (n : Nat) : Prop :=
 ∃ es clock, w.heap[b]? = some (.map es clock) ∧ es.size ≤ n ∧ ∃ l : List (κ × Value), es.toList.map (fun e => (e.key, e.val)) = l.map (fun p => (K.val p.1, p.2)) ∧ ∀ x, f x = (l.find? fun p => decide (x = p.1)).map (·.2)
theorem MapIs.lt (h : MapIs K w b f n) : b < w.heap.size := by
 obtain ⟨es, clock, h, _⟩ := h; exact lt_of_heap h
theorem MapIs.kept {w' : World} (h : MapIs K w b f n) (hk : w'.heap[b]? = w.heap[b]?) : MapIs K w' b f n := by
 obtain ⟨es, clock, h1, h2⟩ := h; exact ⟨es, clock, hk.trans h1, h2⟩
theorem MapIs.alloc (h : MapIs K w b f n) (o : Obj) : MapIs K (w.alloc o) b f n := h.kept (Below.heap_alloc _ _ _ h.lt)
theorem MapIs.below {w' : World} (h : MapIs K w b f n) (hb : Below w.heap.size w w') : MapIs K w' b f n := h.kept (hb.block _ h.lt)
theorem MapIs.made (w : World) : MapIs K (w.alloc (.map #[] 0)) w.heap.size (fun _ => none) 0 :=
 ⟨#[], 0, heap_alloc_new _ _, Nat.le_refl _, [], rfl, fun _ => rfl⟩
theorem MapIs.ext {g : κ → Option Value} (h : MapIs K w b f n) (hfg : ∀ x, f x = g x) : MapIs K w b g n := by
 obtain ⟨es, clock, h1, h2, l, h3, h4⟩ := h; exact ⟨es, clock, h1, h2, l, h3, fun x => (hfg x).symm.trans (h4 x)⟩
theorem findNow_eq (x : κ) : ∀ (es : List MapEntry) (l : List (κ × Value)) (i : Nat), es.map (fun e => (e.key, e.val)) = l.map (fun p => (K.val p.1, p.2)) →
  ∃ r, Instr.findNow K.d (K.val x) es i = some r ∧ r.map (·.2) = (l.find? fun p => decide (x = p.1)).map (·.2) ∧
   ∀ j v, r = some (j, v) → i ≤ j ∧ ∃ e p, es[j - i]? = some e ∧ l[j - i]? = some p ∧ e.key = K.val x ∧ p.1 = x ∧ ∀ q ∈ l.take (j - i), q.1 ≠ x
 | [], [], i, _ => ⟨none, rfl, rfl, fun j v h => (by cases h)⟩
 | e :: es, p :: l, i, h => by
  simp only [List.map_cons, List.cons.injEq, Prod.mk.injEq] at h; obtain ⟨⟨h1, h2⟩, h3⟩ := h; rw [Instr.findNow, h1, K.same]
  by_cases hx : x = p.1
  · simp only [hx, decide_true]
    exact ⟨some (i, e.val), rfl, by simp [h2], fun j v hj => by
     simp only [Option.some.injEq, Prod.mk.injEq] at hj; obtain ⟨rfl, rfl⟩ := hj
     exact ⟨Nat.le_refl _, e, p, by simp, by simp, h1, rfl, fun q hq => by simp at hq⟩⟩
  · simp only [hx, decide_false]
    obtain ⟨r, r1, r2, r3⟩ := findNow_eq x es l (i + 1) h3; refine ⟨r, r1, by rw [r2, List.find?_cons_of_neg (by simpa using hx)], fun j v hj => ?_⟩; obtain ⟨g1, e', p', g2, g3, g4, g5, g6⟩ := r3 j v hj; have ej : j - i = (j - (i + 1)) + 1 := by omega
    refine ⟨by omega, e', p', by rw [ej]; simpa using g2, by rw [ej]; simpa using g3, g4, g5, fun q hq => ?_⟩; rw [ej, List.take_succ_cons] at hq
    rcases List.mem_cons.1 hq with rfl | hq
    · exact fun e => hx e.symm
    · exact g6 q hq
 | [], _ :: _, _, h => by simp at h
 | _ :: _, [], _, h => by simp at h
theorem MapIs.look (h : MapIs K w b f n) {t kt e : TypeId} (ht : P.underlying t = some (.map kt e)) (hk : P.underlying kt = some K.d) {z : Value} (hz : (zeroValue e).run P w = .ok z w) (x : κ) (ok : Bool) :
  (Instr.lookup t (.map (some b)) (K.val x) ok).run P w = .ok (if ok then .tuple #[(f x).getD z, .bool (f x).isSome] else (f x).getD z) w := by
 obtain ⟨es, clock, h1, h2, l, h3, h4⟩ := h; obtain ⟨r, r1, r2, r3⟩ := findNow_eq (K := K) x es.toList l 0 h3; have hget : (getObj b).run P w = .ok (.map es clock) w := by simp [getObj, Sem.run, h1]
 have hc := K.plain P kt es.isEmpty w x hk; rw [h4 x, ← r2]
 cases r with
 | none => simp [Instr.lookup, run_underlying ht, hget, hc, Instr.findKey, run_underlying hk, r1, hz]
 | some q => simp [Instr.lookup, run_underlying ht, hget, hc, Instr.findKey, run_underlying hk, r1]
theorem MapIs.put (h : MapIs K w b f n) {t kt e : TypeId} (ht : P.underlying t = some (.map kt e)) (hk : P.underlying kt = some K.d) (x : κ) (v : Value) :
  ∃ w', (Instr.mapUpdate t (.map (some b)) (K.val x) v).run P w = .ok () w' ∧ MapIs K w' b (fun y => if y = x then some v else f y) (n + 1) ∧ w.grownBy w' (some b) := by
 obtain ⟨es, clock, h1, h2, l, h3, h4⟩ := h; obtain ⟨r, r1, r2, r3⟩ := findNow_eq (K := K) x es.toList l 0 h3; have hget : (getObj b).run P w = .ok (.map es clock) w := by simp [getObj, Sem.run, h1]
 have hc := K.plain P kt false w x hk; have hset : ∀ o, (setObj b o).run P w = .ok () { w with heap := w.heap.setIfInBounds b o } := fun o => by simp [setObj, Sem.run, h1]
 have hlt := lt_of_heap h1
 have fin : ∀ o, w.grownBy { w with heap := w.heap.setIfInBounds b o } (some b) := fun o => ⟨rfl, rfl, rfl, by simp, fun k _ hne => by
  simp only
  rw [Array.getElem?_setIfInBounds, if_neg (fun e => hne (by rw [e]))]⟩
 cases r with
 | none =>
  refine ⟨{ w with heap := w.heap.setIfInBounds b (.map (es.push { key := K.val x, val := v, born := clock }) (clock + 1)) }, ?_, ⟨es.push { key := K.val x, val := v, born := clock }, clock + 1, ?_, ?_, l ++ [(x, v)], ?_, fun y => ?_⟩, fin _⟩
  · simp [Instr.mapUpdate, run_underlying ht, hget, hc, Instr.findKey, run_underlying hk, r1, hset]
  · simp [hlt]
  · simp; omega
  · simp [h3]
  · have hn : (l.find? fun p => decide (x = p.1)) = none := by
      cases hf : l.find? fun p => decide (x = p.1) with
      | none => rfl
      | some q => rw [hf] at r2; simp at r2
    simp only
    by_cases hy : y = x
    · subst hy
      rw [if_pos rfl, List.find?_append, hn]; simp
    · rw [if_neg hy, h4 y, List.find?_append]
      cases l.find? fun p => decide (y = p.1) with
      | some q => rfl
      | none => simp [hy]
 | some q =>
  obtain ⟨j, v0⟩ := q; obtain ⟨_, e0, p0, g2, g3, g4, g5, g6⟩ := r3 j v0 rfl; simp only [Nat.sub_zero] at g2 g3 g6
  have hjl : j < es.size := by
   have := (List.getElem?_eq_some_iff.1 g2).1
   simpa using this
  have hej : es[j]? = some e0 := by rw [← g2]; simp
  refine ⟨{ w with heap := w.heap.setIfInBounds b (.map (es.modify j fun e => { e with key := K.val x, val := v }) clock) }, ?_, ⟨es.modify j fun e => { e with key := K.val x, val := v }, clock, ?_, ?_, l.set j (x, v), ?_, fun y => ?_⟩, fin _⟩
  · simp [Instr.mapUpdate, run_underlying ht, hget, hc, Instr.findKey, run_underlying hk, r1, Instr.keyThatStays, hej, g4, K.bits, hset]
  · simp [hlt]
  · simp; omega
  · apply List.ext_getElem?
    intro i; have hi := congrArg (fun z => z[i]?) h3; simp only [List.getElem?_map] at hi; simp only [Array.toList_modify, List.getElem?_map, List.getElem?_modify, List.getElem?_set]
    by_cases e : j = i
    · subst e
      have hjl' : j < l.length := (List.getElem?_eq_some_iff.1 g3).1; rw [if_pos rfl, g2, if_pos hjl']; simp
    · rw [if_neg e]
      simp only [if_neg e]
      simpa [Option.map_map] using hi
  · have hjl' : j < l.length := (List.getElem?_eq_some_iff.1 g3).1
    have hsplit : l = l.take j ++ p0 :: l.drop (j + 1) := by
     have : l[j] = p0 := (List.getElem?_eq_some_iff.1 g3).2; rw [← this, ← List.drop_eq_getElem_cons hjl', List.take_append_drop]
    have hset2 : l.set j (x, v) = l.take j ++ (x, v) :: l.drop (j + 1) := by rw [List.set_eq_take_append_cons_drop, if_pos hjl']
    rw [hset2, List.find?_append]
    have hno : (l.take j).find? (fun p => decide (x = p.1)) = none := by
     rw [List.find?_eq_none]; intro q hq; have := g6 q hq
     simpa using fun e => this e.symm
    simp only
    by_cases hy : y = x
    · subst hy
      rw [if_pos rfl, hno]; simp
    · rw [if_neg hy, h4 y]
      conv => lhs; rw [hsplit]
      rw [List.find?_append]
      congr 2
      rw [List.find?_cons_of_neg (by simp [g5, hy]), List.find?_cons_of_neg (by simp [hy])]
end
theorem wpList_put {κ : Type} [DecidableEq κ] {K : KeyTy κ} {P : Program} {w : World} {b n : Nat} {f : κ → Option Value} {ops : Array Oper} {rest : List Oper} {o : Oper} {a : Act} {Q : Exit → Act → World → Prop}
  (m x v : Operand) (hg : o.guard = none) (t : TypeId) (hop : o.op = Op.mapUpdate t m x v) {kt e : TypeId} (ht : P.underlying t = some (.map kt e)) (hk : P.underlying kt = some K.d) (h : MapIs K w b f n)
  (hm : a.eval m = .map (some b)) (key : κ) (kv val : Value) (hkv : K.val key = kv) (hx : a.eval x = kv) (hv : a.eval v = val)
  (hK : ∀ w', MapIs K w' b (fun y => if y = key then some val else f y) (n + 1) → w.grownBy w' (some b) → wpList P ops Q rest (a.put o.dst undef) w') : wpList P ops Q (o :: rest) a w := by
 refine wpList_plain hg fun K' hK' => ?_
 subst hkv; obtain ⟨w', hrun, r1, r2⟩ := h.put ht hk key val; unfold Oper.wp; simp [execOp, hop, hm, hx, hv, hrun, Result.andThen]; exact hK' _ _ (hK w' r1 r2)
end Go.Tw
