/-
  Maps of the call's own, with keys that are numbers or strings: what they hold, as a function. No program in sight.
-/
import Derived.Test.YtifcelebfagjbaaGreatDoorMgA
import Derived.Maps.Own
import Derived.Maps.OwnOps
import Derived.Test.YtifcelebfagjbaaGreatDoorProg
import Derived.Test.YtifcelebfagjbaaGreatDoorMgC
import Derived.Deep.RegionWith
import Derived.Deep.Cut
import Derived.Laws.RangeAny
import Derived.Laws.RangeString
import Derived.LoopTactic
import Derived.Laws.Strings2
import Derived.Lib.QuietBelow
import Derived.StillTailTactics
import Derived.Shelf.SlSortCmp.QuietGrown
import Derived.Test.YtifcelebfagjbaaGreatDoorLib
import Derived.Lib.SmallJoins
namespace Go.Tw
open Go.RowKit

/-- a key type: numbers, strings -/
structure KeyTy (κ : Type) [DecidableEq κ] where
  val : κ → Value
  d : TypeDesc
  plain : ∀ (P : Program) (kt : TypeId) (b : Bool) (w : World) (x : κ), P.underlying kt = some d → (Instr.checkKey b 10000 kt (val x)).run P w = .ok () w
  same : ∀ a b, Instr.sameNow d (val a) (val b) = some (decide (a = b))
  bits : ∀ a, Instr.sameBits 10000 (val a) (val a) = true
  inj : ∀ a b, val a = val b → a = b

def kInt : KeyTy Int where
  val := .int .i64
  d := .int .i64
  plain := fun P kt b w x h => by rw [show (10000 : Nat) = 9999 + 1 from rfl, Instr.checkKey]; simp [run_underlying h]
  same := fun a b => by simp only [Instr.sameNow, if_true]; by_cases h : a = b <;> simp [h]
  bits := fun a => by simp [Instr.sameBits]
  inj := fun a b h => by simpa using h
theorem bytes_beq_eq (a b : ByteArray) : (a == b) = decide (a = b) := by
  by_cases h : a = b
  · rw [decide_eq_true h]; exact (MapKept.bytes_beq a b).2 h
  · rw [decide_eq_false h]
    cases e : a == b with
    | false => rfl
    | true => exact absurd ((MapKept.bytes_beq a b).1 e) h
/-- two strings, as the walk compares them -/
theorem str_eq (a b : ByteArray) : (a.toList == b.toList) = decide (a = b) := by rw [← bytes_beq_eq, beq_toListBytes]
def kStr : KeyTy ByteArray where
  val := .string
  d := .string
  plain := fun P kt b w x h => by rw [show (10000 : Nat) = 9999 + 1 from rfl, Instr.checkKey]; simp [run_underlying h]
  same := fun a b => by simp only [Instr.sameNow, bytes_beq_eq]
  bits := fun a => by rw [show (10000 : Nat) = 9999 + 1 from rfl]; simp [Instr.sameBits, bytes_beq_eq]
  inj := fun a b h => by simpa using h

section
variable {κ : Type} [DecidableEq κ] {K : KeyTy κ} {P : Program} {w : World} {b n : Nat} {f : κ → Option Value}

/-- block b is a map of at most n entries that holds f -/
def MapIs (K : KeyTy κ) (w : World) (b : Nat) (f : κ → Option Value) (n : Nat) : Prop :=
  ∃ es clock, w.heap[b]? = some (.map es clock) ∧ es.size ≤ n ∧ ∃ l : List (κ × Value), es.toList.map (fun e => (e.key, e.val)) = l.map (fun p => (K.val p.1, p.2)) ∧ ∀ x, f x = (l.find? fun p => decide (x = p.1)).map (·.2)

theorem MapIs.lt (h : MapIs K w b f n) : b < w.heap.size := by
  obtain ⟨es, clock, h, _⟩ := h
  exact lt_of_heap h
theorem MapIs.mono (h : MapIs K w b f n) {m : Nat} (hm : n ≤ m) : MapIs K w b f m := by
  obtain ⟨es, clock, h1, h2, h3⟩ := h
  exact ⟨es, clock, h1, Nat.le_trans h2 hm, h3⟩
theorem MapIs.kept {w' : World} (h : MapIs K w b f n) (hk : w'.heap[b]? = w.heap[b]?) : MapIs K w' b f n := by
  obtain ⟨es, clock, h1, h2⟩ := h
  exact ⟨es, clock, hk.trans h1, h2⟩
theorem MapIs.alloc (h : MapIs K w b f n) (o : Obj) : MapIs K (w.alloc o) b f n := h.kept (Below.heap_alloc _ _ _ h.lt)
theorem MapIs.below {w' : World} (h : MapIs K w b f n) (hb : Below w.heap.size w w') : MapIs K w' b f n := h.kept (hb.block _ h.lt)
theorem MapIs.drewN (h : MapIs K w b f n) (m : Nat) : MapIs K (w.drewN m) b f n := h.below (below_drewN (Below.refl _ _) m)
theorem MapIs.made (w : World) : MapIs K (w.alloc (.map #[] 0)) w.heap.size (fun _ => none) 0 :=
  ⟨#[], 0, heap_alloc_new _ _, Nat.le_refl _, [], rfl, fun _ => rfl⟩
theorem MapIs.ext {g : κ → Option Value} (h : MapIs K w b f n) (hfg : ∀ x, f x = g x) : MapIs K w b g n := by
  obtain ⟨es, clock, h1, h2, l, h3, h4⟩ := h
  exact ⟨es, clock, h1, h2, l, h3, fun x => (hfg x).symm.trans (h4 x)⟩

theorem findNow_eq (x : κ) : ∀ (es : List MapEntry) (l : List (κ × Value)) (i : Nat), es.map (fun e => (e.key, e.val)) = l.map (fun p => (K.val p.1, p.2)) →
    ∃ r, Instr.findNow K.d (K.val x) es i = some r ∧ r.map (·.2) = (l.find? fun p => decide (x = p.1)).map (·.2) ∧
      ∀ j v, r = some (j, v) → i ≤ j ∧ ∃ e p, es[j - i]? = some e ∧ l[j - i]? = some p ∧ e.key = K.val x ∧ p.1 = x ∧ ∀ q ∈ l.take (j - i), q.1 ≠ x
  | [], [], i, _ => ⟨none, rfl, rfl, fun j v h => (by cases h)⟩
  | e :: es, p :: l, i, h => by
    simp only [List.map_cons, List.cons.injEq, Prod.mk.injEq] at h
    obtain ⟨⟨h1, h2⟩, h3⟩ := h
    rw [Instr.findNow, h1, K.same]
    by_cases hx : x = p.1
    · simp only [hx, decide_true]
      exact ⟨some (i, e.val), rfl, by simp [h2], fun j v hj => by
        simp only [Option.some.injEq, Prod.mk.injEq] at hj
        obtain ⟨rfl, rfl⟩ := hj
        exact ⟨Nat.le_refl _, e, p, by simp, by simp, h1, rfl, fun q hq => by simp at hq⟩⟩
    · simp only [hx, decide_false]
      obtain ⟨r, r1, r2, r3⟩ := findNow_eq x es l (i + 1) h3
      refine ⟨r, r1, by rw [r2, List.find?_cons_of_neg (by simpa using hx)], fun j v hj => ?_⟩
      obtain ⟨g1, e', p', g2, g3, g4, g5, g6⟩ := r3 j v hj
      have ej : j - i = (j - (i + 1)) + 1 := by omega
      refine ⟨by omega, e', p', by rw [ej]; simpa using g2, by rw [ej]; simpa using g3, g4, g5, fun q hq => ?_⟩
      rw [ej, List.take_succ_cons] at hq
      rcases List.mem_cons.1 hq with rfl | hq
      · exact fun e => hx e.symm
      · exact g6 q hq
  | [], _ :: _, _, h => by simp at h
  | _ :: _, [], _, h => by simp at h

theorem MapIs.look (h : MapIs K w b f n) {t kt e : TypeId} (ht : P.underlying t = some (.map kt e)) (hk : P.underlying kt = some K.d) {z : Value} (hz : (zeroValue e).run P w = .ok z w) (x : κ) (ok : Bool) :
    (Instr.lookup t (.map (some b)) (K.val x) ok).run P w = .ok (if ok then .tuple #[(f x).getD z, .bool (f x).isSome] else (f x).getD z) w := by
  obtain ⟨es, clock, h1, h2, l, h3, h4⟩ := h
  obtain ⟨r, r1, r2, r3⟩ := findNow_eq (K := K) x es.toList l 0 h3
  have hget : (getObj b).run P w = .ok (.map es clock) w := by simp [getObj, Sem.run, h1]
  have hc := K.plain P kt es.isEmpty w x hk
  rw [h4 x, ← r2]
  cases r with
  | none => simp [Instr.lookup, run_underlying ht, hget, hc, Instr.findKey, run_underlying hk, r1, hz]
  | some q => simp [Instr.lookup, run_underlying ht, hget, hc, Instr.findKey, run_underlying hk, r1]

theorem MapIs.put (h : MapIs K w b f n) {t kt e : TypeId} (ht : P.underlying t = some (.map kt e)) (hk : P.underlying kt = some K.d) (x : κ) (v : Value) :
    ∃ w', (Instr.mapUpdate t (.map (some b)) (K.val x) v).run P w = .ok () w' ∧ MapIs K w' b (fun y => if y = x then some v else f y) (n + 1) ∧ w.grownBy w' (some b) := by
  obtain ⟨es, clock, h1, h2, l, h3, h4⟩ := h
  obtain ⟨r, r1, r2, r3⟩ := findNow_eq (K := K) x es.toList l 0 h3
  have hget : (getObj b).run P w = .ok (.map es clock) w := by simp [getObj, Sem.run, h1]
  have hc := K.plain P kt false w x hk
  have hset : ∀ o, (setObj b o).run P w = .ok () { w with heap := w.heap.setIfInBounds b o } := fun o => by simp [setObj, Sem.run, h1]
  have hlt := lt_of_heap h1
  have fin : ∀ o, w.grownBy { w with heap := w.heap.setIfInBounds b o } (some b) := fun o => ⟨rfl, rfl, rfl, by simp, fun k _ hne => by
    simp only
    rw [Array.getElem?_setIfInBounds, if_neg (fun e => hne (by rw [e]))]⟩
  cases r with
  | none =>
    refine ⟨{ w with heap := w.heap.setIfInBounds b (.map (es.push { key := K.val x, val := v, born := clock }) (clock + 1)) }, ?_, ⟨es.push { key := K.val x, val := v, born := clock }, clock + 1, ?_, ?_, l ++ [(x, v)], ?_, fun y => ?_⟩, fin _⟩
    · simp [Instr.mapUpdate, run_underlying ht, hget, hc, Instr.findKey, run_underlying hk, r1, hset]
    · simp [hlt]
    · simp; omega
    · simp [h3]
    · have hn : (l.find? fun p => decide (x = p.1)) = none := by
        cases hf : l.find? fun p => decide (x = p.1) with
        | none => rfl
        | some q => rw [hf] at r2; simp at r2
      simp only
      by_cases hy : y = x
      · subst hy
        rw [if_pos rfl, List.find?_append, hn]; simp
      · rw [if_neg hy, h4 y, List.find?_append]
        cases l.find? fun p => decide (y = p.1) with
        | some q => rfl
        | none => simp [hy]
  | some q =>
    obtain ⟨j, v0⟩ := q
    obtain ⟨_, e0, p0, g2, g3, g4, g5, g6⟩ := r3 j v0 rfl
    simp only [Nat.sub_zero] at g2 g3 g6
    have hjl : j < es.size := by
      have := (List.getElem?_eq_some_iff.1 g2).1
      simpa using this
    have hej : es[j]? = some e0 := by rw [← g2]; simp
    refine ⟨{ w with heap := w.heap.setIfInBounds b (.map (es.modify j fun e => { e with key := K.val x, val := v }) clock) }, ?_, ⟨es.modify j fun e => { e with key := K.val x, val := v }, clock, ?_, ?_, l.set j (x, v), ?_, fun y => ?_⟩, fin _⟩
    · simp [Instr.mapUpdate, run_underlying ht, hget, hc, Instr.findKey, run_underlying hk, r1, Instr.keyThatStays, hej, g4, K.bits, hset]
    · simp [hlt]
    · simp; omega
    · apply List.ext_getElem?
      intro i
      have hi := congrArg (fun z => z[i]?) h3
      simp only [List.getElem?_map] at hi
      simp only [Array.toList_modify, List.getElem?_map, List.getElem?_modify, List.getElem?_set]
      by_cases e : j = i
      · subst e
        have hjl' : j < l.length := (List.getElem?_eq_some_iff.1 g3).1
        rw [if_pos rfl, g2, if_pos hjl']
        simp
      · rw [if_neg e]
        simp only [if_neg e]
        simpa [Option.map_map] using hi
    · have hjl' : j < l.length := (List.getElem?_eq_some_iff.1 g3).1
      have hsplit : l = l.take j ++ p0 :: l.drop (j + 1) := by
        have : l[j] = p0 := (List.getElem?_eq_some_iff.1 g3).2
        rw [← this, ← List.drop_eq_getElem_cons hjl', List.take_append_drop]
      have hset2 : l.set j (x, v) = l.take j ++ (x, v) :: l.drop (j + 1) := by rw [List.set_eq_take_append_cons_drop, if_pos hjl']
      rw [hset2, List.find?_append]
      have hno : (l.take j).find? (fun p => decide (x = p.1)) = none := by
        rw [List.find?_eq_none]
        intro q hq
        have := g6 q hq
        simpa using fun e => this e.symm
      simp only
      by_cases hy : y = x
      · subst hy
        rw [if_pos rfl, hno]; simp
      · rw [if_neg hy, h4 y]
        conv => lhs; rw [hsplit]
        rw [List.find?_append]
        congr 2
        rw [List.find?_cons_of_neg (by simp [g5, hy]), List.find?_cons_of_neg (by simp [hy])]
end

theorem wpList_put {κ : Type} [DecidableEq κ] {K : KeyTy κ} {P : Program} {w : World} {b n : Nat} {f : κ → Option Value} {ops : Array Oper} {rest : List Oper} {o : Oper} {a : Act} {Q : Exit → Act → World → Prop}
    (m x v : Operand) (hg : o.guard = none) (t : TypeId) (hop : o.op = Op.mapUpdate t m x v) {kt e : TypeId} (ht : P.underlying t = some (.map kt e)) (hk : P.underlying kt = some K.d) (h : MapIs K w b f n)
    (hm : a.eval m = .map (some b)) (key : κ) (kv val : Value) (hkv : K.val key = kv) (hx : a.eval x = kv) (hv : a.eval v = val)
    (hK : ∀ w', MapIs K w' b (fun y => if y = key then some val else f y) (n + 1) → w.grownBy w' (some b) → wpList P ops Q rest (a.put o.dst undef) w') : wpList P ops Q (o :: rest) a w := by
  refine wpList_plain hg fun K' hK' => ?_
  subst hkv
  obtain ⟨w', hrun, r1, r2⟩ := h.put ht hk key val
  unfold Oper.wp
  simp [execOp, hop, hm, hx, hv, hrun, Result.andThen]
  exact hK' _ _ (hK w' r1 r2)

end Go.Tw
/-
  Layer 17 (passage): tollwayref11.Check, tollwayref01.Format.
-/
namespace Go.Tw.Po
open Go.RowKit Go.Tw
open Classical in
noncomputable def sumR (s : ByteArray) : Int := if digP s then luhnN s s.size else -1
theorem sumR_yes {s : ByteArray} (h : digP s) : sumR s = luhnN s s.size := by unfold sumR; rw [if_pos h]
theorem sumR_no {s : ByteArray} (h : ¬ digP s) : sumR s = -1 := by unfold sumR; rw [if_neg h]
theorem mod_ten (z : Int) : (Hid (z % 10 = 0) ∧ (z % 10 != 0) = false) ∨ (Hid (¬ z % 10 = 0) ∧ (z % 10 != 0) = true) := by
  by_cases q : z % 10 = 0
  · exact Or.inl ⟨Lib.hid q, by rw [q]; rfl⟩
  · exact Or.inr ⟨Lib.hid q, by simpa using q⟩
theorem tdiv_ways (m : Int) : (0 ≤ m ∧ Int.tdiv m 10 = m / 10 ∧ Int.tmod m 10 = m % 10) ∨ (m < 0 ∧ Int.tdiv m 10 = -((-m) / 10) ∧ Int.tmod m 10 = -((-m) % 10)) := by
  by_cases h : 0 ≤ m
  · exact Or.inl ⟨h, Int.tdiv_eq_ediv_of_nonneg h, Int.tmod_eq_emod_of_nonneg h⟩
  · refine Or.inr ⟨by omega, ?_, ?_⟩
    · conv => lhs; rw [show m = - -m by omega, Int.neg_tdiv]
      rw [Int.tdiv_eq_ediv_of_nonneg (by omega)]
    · conv => lhs; rw [show m = - -m by omega, Int.neg_tmod]
      rw [Int.tmod_eq_emod_of_nonneg (by omega)]
end Go.Tw.Po
namespace Go.Proofs.YtifcelebfagjbaaGreatDoor
open Go.RowKit Go.Tw Go.Tw.Po
theorem ofB_app (a b : List UInt8) : ofB a ++ ofB b = ofB (a ++ b) := by
  apply ByteArray.ext
  simp [ofB]
theorem digit_slice {r : Nat} (hr : (r : Int) + 1 ≤ 10) (w : World) : (Instr.slice 9 (.string ⟨#[48, 49, 50, 51, 52, 53, 54, 55, 56, 57]⟩) (some (.int .i64 r)) (some (.int .i64 ((r : Int) + 1))) none).run Tryz.prog w = .ok (.string (ofB [UInt8.ofNat (48 + r)])) w := by
  rw [run_slice_string w 9 _ .i64 .i64 _ _ Tryz.underlying9 (by omega) (by omega) (by show (r : Int) + 1 ≤ ((10 : Nat) : Int); omega)]
  have h : r = 0 ∨ r = 1 ∨ r = 2 ∨ r = 3 ∨ r = 4 ∨ r = 5 ∨ r = 6 ∨ r = 7 ∨ r = 8 ∨ r = 9 := by omega
  rcases h with rfl | rfl | rfl | rfl | rfl | rfl | rfl | rfl | rfl | rfl <;> rfl
theorem ret_sv {a b : ByteArray} (h : a = b) : Ending.returned (.string b) = .returned (.string a) := by rw [h]
theorem ret_i {a b : Int} (h : a = b) : Ending.returned (.int .i64 b) = .returned (.int .i64 a) := by rw [h]
theorem two_ways (k : Nat) : (Hid (k % 2 = 0) ∧ Int.tmod (k : Int) 2 = 0) ∨ (Hid (¬ k % 2 = 0) ∧ Int.tmod (k : Int) 2 = 1) := by
  have e : Int.tmod (k : Int) 2 = ((k % 2 : Nat) : Int) := by
    rw [Int.tmod_eq_emod_of_nonneg (by omega)]
    omega
  by_cases h : k % 2 = 0
  · exact Or.inl ⟨Lib.hid h, by rw [e, h]; rfl⟩
  · exact Or.inr ⟨Lib.hid h, by rw [e]; omega⟩
set_option maxRecDepth 100000 in
set_option maxHeartbeats 1000000 in
theorem sumR_any (s : ByteArray) (w : World) (hl : s.size ≤ 1000) : Calls Tryz.prog 150 #[.string s] w fun e w' => e = .returned (.int .i64 (sumR s)) ∧ Below w.heap.size w w' := by
  go_enter Tryz.func150, Tryz.ntmps150
  go_wp2
  go_loopg [3, 4] s.size (fun g n i wr => ∃ (k : Nat) (z : Int), k + g = s.size ∧ i = .int .i64 k ∧ n = .int .i64 z ∧ Hid (z = luhnN s k) ∧ 0 ≤ z ∧ z ≤ 9 * k ∧ Hid (∀ i (h : i < k) (h2 : i < s.size), 48 ≤ s[i].toNat ∧ s[i].toNat ≤ 57) ∧ w = wr)
  case atStart => exact ⟨0, 0, by omega, rfl, rfl, Lib.hid rfl, by omega, by omega, Lib.hid (fun i h => absurd h (Nat.not_lt_zero _)), rfl⟩
  case round =>
    obtain ⟨k, z, hk, rfl, rfl, HZ, z1, z2, HA, rfl⟩ := hrel
    by_cases hlt : k < s.size
    case neg =>
      have HY := Lib.hid (show sumR s = z from by
        rw [HZ.out, show k = s.size by omega]
        exact sumR_yes fun i h => HA.out i (by omega) h)
      clear z1 z2
      go_wp2
      go_ret
      exact ⟨ret_i HY.out, Below.refl _ _⟩
    have k0 : (0 : Int) ≤ (k : Int) := by omega
    have k1 : (k : Int) < (s.size : Int) := by omega
    have hb := s[k].toNat_lt
    have HNX := Lib.hid (luhn_next s hlt)
    have z3 : z ≤ 9000 := by omega
    have hz : (48 ≤ s[k].toNat ∧ s[k].toNat ≤ 57) ∨ s[k].toNat < 48 ∨ (48 ≤ s[k].toNat ∧ 57 < s[k].toNat) := by omega
    rcases hz with ⟨q1, q2⟩ | q1 | ⟨q1, q2⟩
    · have g1 : (48 : Int) ≤ (s[k].toNat : Int) := by omega
      have g2 : (s[k].toNat : Int) ≤ 57 := by omega
      have HLB := Lib.hid (lw_bounds (i := k) (c := (s[k].toNat : Int)) g1 g2)
      have HQ := Lib.hid (show ∀ i (h : i < k + 1) (h2 : i < s.size), 48 ≤ s[i].toNat ∧ s[i].toNat ≤ 57 from fun i h h2 => by
        by_cases e : i = k
        · subst e; exact ⟨q1, q2⟩
        · exact HA.out i (by omega) h2)
      have HZ2 := Lib.hid z2
      clear q1 q2 hb z2
      rcases two_ways k with ⟨t1, t2⟩ | ⟨t1, t2⟩
      · by_cases q3 : 9 < 2 * ((s[k].toNat : Int) - 48)
        · have HW := Lib.hid (show lw k (s[k].toNat : Int) = 2 * ((s[k].toNat : Int) - 48) - 9 by unfold lw; rw [if_pos t1.out, if_pos q3])
          go_wp2
          go_roundg (s.size - (k + 1))
          case measure => omega
          case rel => exact ⟨k + 1, _, by omega, by go_num, rfl, Lib.hid (by rw [HNX.out, HW.out, HZ.out]), by omega, by have := HZ2.out; omega, HQ, rfl⟩
        · have HW := Lib.hid (show lw k (s[k].toNat : Int) = 2 * ((s[k].toNat : Int) - 48) by unfold lw; rw [if_pos t1.out, if_neg q3])
          go_wp2
          go_roundg (s.size - (k + 1))
          case measure => omega
          case rel => exact ⟨k + 1, _, by omega, by go_num, rfl, Lib.hid (by rw [HNX.out, HW.out, HZ.out]), by omega, by have := HZ2.out; omega, HQ, rfl⟩
      · have HW := Lib.hid (show lw k (s[k].toNat : Int) = (s[k].toNat : Int) - 48 by unfold lw; rw [if_neg t1.out])
        by_cases q3 : 9 < (s[k].toNat : Int) - 48
        · omega
        · go_wp2
          go_roundg (s.size - (k + 1))
          case measure => omega
          case rel => exact ⟨k + 1, _, by omega, by go_num, rfl, Lib.hid (by rw [HNX.out, HW.out, HZ.out]), by omega, by have := HZ2.out; omega, HQ, rfl⟩
    · have g1 : (s[k].toNat : Int) < 48 := by omega
      have HY := Lib.hid (show sumR s = -1 from sumR_no fun h => by have := h k hlt; omega)
      clear q1 hb z2
      go_wp2
      go_ret
      exact ⟨ret_i HY.out, Below.refl _ _⟩
    · have g1 : (48 : Int) ≤ (s[k].toNat : Int) := by omega
      have g2 : (57 : Int) < (s[k].toNat : Int) := by omega
      have HY := Lib.hid (show sumR s = -1 from sumR_no fun h => by have := h k hlt; omega)
      clear q1 q2 hb z2
      go_wp2
      go_ret
      exact ⟨ret_i HY.out, Below.refl _ _⟩
set_option maxRecDepth 100000 in
set_option maxHeartbeats 1000000 in
theorem tagCheckR_any (s : ByteArray) (w : World) : Calls Tryz.prog 131 #[.string s] w fun e w' => e = .returned (.int .i64 (tagE 18 s)) ∧ Below w.heap.size w w' := by
  by_cases h12 : s.size = 12
  · have hz' : ((s.size : Int) != 12) = false := by rw [h12]; rfl
    have HS := Lib.hid (sumR_any s w (by omega))
    have H12 := Lib.hid h12
    clear h12
    by_cases hd : digP s
    · have hlb := luhn_bounds hd s.size (Nat.le_refl _)
      have HT := Lib.hid (show luhnN s s.size % 10 = 0 → tagE 18 s = 0 from fun h => tag_yes ⟨hd, H12.out, h⟩)
      have HF := Lib.hid (show ¬ luhnN s s.size % 10 = 0 → tagE 18 s = 18 from fun h => tag_no fun q => h q.2.2)
      rw [sumR_yes hd] at HS
      obtain ⟨z, hz⟩ : ∃ z, luhnN s s.size = z := ⟨_, rfl⟩
      rw [hz] at hlb HS HT HF
      obtain ⟨z1, z2⟩ := hlb
      have z3 : z ≤ 1000 := by have := H12.out; omega
      clear hz z2 hd
      have z4 : decide (z < 0) = false := by rw [decide_eq_false_iff_not]; omega
      rcases mod_ten z with ⟨q1, q2⟩ | ⟨q1, q2⟩
      · go_enter Tryz.func131, Tryz.ntmps131
        go_wp2_with (go_at_call 150
                     with_reducible refine HS.out.mono ?_
                     rintro e w1 ⟨rfl, hb1⟩
                     have HB1 := Lib.hid hb1
                     clear hb1)
        go_ret
        exact ⟨ret_i (HT.out q1.out), HB1.out⟩
      · go_enter Tryz.func131, Tryz.ntmps131
        go_wp2_with (go_at_call 150
                     with_reducible refine HS.out.mono ?_
                     rintro e w1 ⟨rfl, hb1⟩
                     have HB1 := Lib.hid hb1
                     clear hb1)
        go_ret
        exact ⟨ret_i (HF.out q1.out), HB1.out⟩
    · rw [sumR_no hd] at HS
      have HF := Lib.hid (show tagE 18 s = 18 from tag_no fun q => hd q.1)
      clear hd
      go_enter Tryz.func131, Tryz.ntmps131
      go_wp2_with (go_at_call 150
                   with_reducible refine HS.out.mono ?_
                   rintro e w1 ⟨rfl, hb1⟩
                   have HB1 := Lib.hid hb1
                   clear hb1)
      go_ret
      exact ⟨ret_i HF.out, HB1.out⟩
  · have hz' : ((s.size : Int) != 12) = true := by simp; omega
    have HF := Lib.hid (show tagE 18 s = 18 from tag_no fun q => h12 q.2.1)
    clear h12
    go_enter Tryz.func131, Tryz.ntmps131
    go_wp2
    go_ret
    exact ⟨ret_i HF.out, Below.refl _ _⟩
set_option maxRecDepth 100000 in
set_option maxHeartbeats 1000000 in
theorem FormatR_any (n : Int) (hn : i64ok n) (w : World) : Calls Tryz.prog 37 #[.int .i64 n] w fun e w' => e = .returned (.string (fmtS n)) ∧ w = w' := by
  unfold i64ok at hn
  by_cases h0 : n = 0
  · subst h0
    go_enter Tryz.func37, Tryz.ntmps37
    go_wp2
    go_ret
    exact ⟨ret_sv fmt_zero, rfl⟩
  have hz : (n == 0) = false := by rw [beq_eq_false_iff_ne]; exact h0
  go_enter Tryz.func37, Tryz.ntmps37
  go_wp2
  go_loopg [3, 4] n.natAbs (fun g sv mv wr => ∃ (m : Int) (t : List UInt8), g = m.natAbs ∧ mv = .int .i64 m ∧ sv = .string (ofB t) ∧ Hid (digsTo n.natAbs [] = digsTo m.natAbs t) ∧ -9223372036854775808 ≤ m ∧ m ≤ 9223372036854775807 ∧ (ofB t).size ≤ 20 ∧ Hid (t.length ≤ 20 ∧ m.natAbs * 10 ^ t.length ≤ n.natAbs) ∧ w = wr)
  case atStart => exact ⟨n, [], rfl, rfl, rfl, Lib.hid rfl, hn.1, hn.2, Nat.zero_le _, Lib.hid ⟨Nat.zero_le _, by simp⟩, rfl⟩
  case round =>
    obtain ⟨m, t, rfl, rfl, rfl, HD, m1, m2, ht, HM, rfl⟩ := hrel
    by_cases hm0 : m = 0
    · have hm : (m != 0) = false := by simp [hm0]
      have HF := Lib.hid (show digsTo n.natAbs [] = digsTo 0 t from by rw [HD.out, hm0]; rfl)
      have HN := Lib.hid h0
      clear hm0 h0
      by_cases hneg : n < 0
      · have HY := Lib.hid (fmt_neg hneg HF.out)
        go_wp2
        go_ret
        exact ⟨ret_sv HY.out, rfl⟩
      · have HY := Lib.hid (fmt_pos HN.out hneg HF.out)
        go_wp2
        go_ret
        exact ⟨ret_sv HY.out, rfl⟩
    · have hm : (m != 0) = true := by simp [hm0]
      obtain ⟨r, hr⟩ : ∃ r : Nat, r = m.natAbs % 10 := ⟨_, rfl⟩
      obtain ⟨q, hq⟩ : ∃ q, Int.tdiv m 10 = q := ⟨_, rfl⟩
      have hqa : q.natAbs = m.natAbs / 10 := by rw [← hq]; rcases tdiv_ways m with ⟨a1, a2, -⟩ | ⟨a1, a2, -⟩ <;> omega
      have hr9 : (r : Int) + 1 ≤ 10 := by omega
      have hr0 : (0 : Int) ≤ (r : Int) := by omega
      have HN := Lib.hid (show digsTo n.natAbs [] = digsTo q.natAbs (UInt8.ofNat (48 + r) :: t) from by rw [HD.out, digs_next (by omega), hqa, hr])
      have hpow := HM.out
      have ht19 : t.length ≤ 19 := Classical.byContradiction fun h => by
        have h2 : 10 ^ 20 ≤ 10 ^ t.length := Nat.pow_le_pow_right (by decide) (by omega)
        have h3 : 1 * 10 ^ t.length ≤ m.natAbs * 10 ^ t.length := Nat.mul_le_mul_right _ (by omega)
        omega
      have HMN := Lib.hid (show (UInt8.ofNat (48 + r) :: t).length ≤ 20 ∧ q.natAbs * 10 ^ (UInt8.ofNat (48 + r) :: t).length ≤ n.natAbs from by
        refine ⟨by simp; omega, ?_⟩
        rw [List.length_cons, Nat.pow_succ, Nat.mul_comm (10 ^ t.length), ← Nat.mul_assoc, hqa]
        exact Nat.le_trans (Nat.mul_le_mul_right _ (by omega)) hpow.2)
      have HS := Lib.hid (show (ofB (UInt8.ofNat (48 + r) :: t)).size ≤ 20 from HMN.out.1)
      have q1 : -9223372036854775808 ≤ q := by omega
      have q2 : q ≤ 9223372036854775807 := by omega
      have HMS := Lib.hid (show q.natAbs < m.natAbs by omega)
      have hds := digit_slice hr9 w
      have h1s : (ofB [UInt8.ofNat (48 + r)]).size = 1 := rfl
      have HAP := Lib.hid (ofB_app [UInt8.ofNat (48 + r)] t)
      generalize ofB [UInt8.ofNat (48 + r)] = c1 at hds h1s HAP
      clear hpow ht19
      obtain ⟨x, hx⟩ : ∃ x, Int.tmod m 10 = x := ⟨_, rfl⟩
      have hxx : (x = (r : Int)) ∨ (x < 0 ∧ -x = (r : Int)) := by rw [← hx]; rcases tdiv_ways m with ⟨a1, -, a2⟩ | ⟨a1, -, a2⟩ <;> omega
      by_cases hx0 : x < 0
      · have hxr : -x = (r : Int) := by omega
        clear hxx
        clear hr hqa
        go_wp2
        go_roundg q.natAbs
        case measure => exact HMS.out
        case rel => exact ⟨q, UInt8.ofNat (48 + r) :: t, rfl, rfl, congrArg Value.string HAP.out, HN, q1, q2, HS.out, HMN, rfl⟩
      · obtain rfl : x = (r : Int) := by omega
        clear hxx
        clear hr hqa
        go_wp2
        go_roundg q.natAbs
        case measure => exact HMS.out
        case rel => exact ⟨q, UInt8.ofNat (48 + r) :: t, rfl, rfl, congrArg Value.string HAP.out, HN, q1, q2, HS.out, HMN, rfl⟩
end Go.Proofs.YtifcelebfagjbaaGreatDoor
/-
  A region that draws its order: a head of operations that are quiet in a class of worlds, in whatever order, then a tail in one forced order, walked in every world of the class. No program in sight.
-/
namespace Go.Tw
open Go.RowKit Go.Sort
section
variable {P : Program} {ops : Array Oper} {md : Region.Mode} {C : World → Prop}
/-- m operations of the head are still to come, in whatever order; then R -/
def headQ (P : Program) (md : Region.Mode) (ops : Array Oper) (C : World → Prop) (n : Nat) (R : Array Bool → Act → Prop) : Nat → Array Bool → Act → Prop
  | 0, listed, a => R listed a
  | m + 1, listed, a => Region.ready md ops listed ≠ [] ∧ ∀ i ∈ Region.ready md ops listed, i < n ∧ qOp P ops C i (headQ P md ops C n R m (listed.setIfInBounds i true)) a
theorem wpAny_of_headQ {n g : Nat} {R : Array Bool → Act → Prop} {Q' : Exit → Act → World → Prop} (hR : ∀ listed a w, C w → R listed a → wpAny P md ops Q' g listed a w) :
    ∀ (m : Nat) (listed : Array Bool) (a : Act) (w : World), C w → headQ P md ops C n R m listed a → wpAny P md ops Q' (m + g) listed a w
  | 0, listed, a, w, hw, h => by rw [Nat.zero_add]; exact hR _ _ _ hw h
  | m + 1, listed, a, w, hw, h => by
    rw [show m + 1 + g = (m + g) + 1 by omega]
    exact ⟨fun h0 => absurd h0 h.1, fun i hi => wpOp_of_qOp hw (fun a' w' hw' h' => wpAny_of_headQ hR m _ a' w' hw' h') (h.2 i hi).2⟩
theorem headQ_first {n i : Nat} {oi : Oper} {v : Value} {R : Array Bool → Act → Prop} (hi : ops[i]? = some oi) (hsel : ∀ (j : Nat) (o : Oper) cs b, ops[j]? = some o → o.op ≠ .select cs b)
    (hs : Region.sinkB md ops n = true) (hc : Region.chainB md ops n = true) (hn : n < ops.size) (hin : i < n) (hdone : ∀ listed a, R listed a → ∀ j ∈ Region.ready md ops listed, n ≤ j) :
    ∀ (m : Nat) (listed : Array Bool) (a : Act), HeadInv md ops n listed →
      (∀ j oj, ops[j]? = some oj → j ≠ i → listed.getD j true = false → (∀ e ∈ oj.after, Region.binds md e = true → e.on ≠ i) → oi.apart ops oj = true) →
      i ∈ Region.ready md ops listed → YieldsIn P ops C oi v a →
      headQ P md ops C n R m (listed.setIfInBounds i true) (a.put oi.dst v) → headQ P md ops C n R (m + 1) listed a := by
  intro m
  induction m with
  | zero =>
    intro listed a inv _ hr hy H
    have hun := (mem_ready.1 hr).1
    refine ⟨fun h => (by rw [h] at hr; cases hr), fun j hj => ?_⟩
    have hjn : j < n := Nat.lt_of_not_le fun h => tail_waits hs hc hn inv _ i rfl hin hun j h hj
    refine ⟨hjn, ?_⟩
    by_cases hji : j = i
    · subst hji; exact hy.qOp hi H
    · have := hdone _ _ H j (ready_mono hj hji)
      omega
  | succ m ih =>
    intro listed a inv hfree hr hy H
    have hun := (mem_ready.1 hr).1
    refine ⟨fun h => (by rw [h] at hr; cases hr), fun j hj => ?_⟩
    have hjn : j < n := Nat.lt_of_not_le fun h => tail_waits hs hc hn inv _ i rfl hin hun j h hj
    refine ⟨hjn, ?_⟩
    by_cases hji : j = i
    · subst hji; exact hy.qOp hi H
    · have h1 := (H.2 j (ready_mono hj hji)).2
      obtain ⟨hjun, oj, hoj, hall⟩ := mem_ready.1 hj
      have hnot : ∀ e ∈ oj.after, Region.binds md e = true → e.on ≠ i := fun e he hb heq => by
        have h1 := hall e he hb
        rw [heq, getD_both hun] at h1
        cases h1
      have h2 := qOp_put hoj (hfree j oj hoj hji hjun hnot) (fun cs b => hsel i oi cs b hi) (fun cs b => hsel j oj cs b hoj) hy h1
      have hfree' : ∀ k ok, ops[k]? = some ok → k ≠ i → (listed.setIfInBounds j true).getD k true = false →
          (∀ e ∈ ok.after, Region.binds md e = true → e.on ≠ i) → oi.apart ops ok = true := fun k ok hk hki hun hno => by
        refine hfree k ok hk hki ?_ hno
        by_cases hjk : j = k
        · subst hjk; exact hjun
        · rw [getD_set_ne true hjk] at hun; exact hun
      refine qOp_mono (fun a' h3 => ih (listed.setIfInBounds j true) a' (inv.set hj hjn) hfree' (ready_mono hr (Ne.symm hji)) h3.1 ?_) h2
      rw [Array.setIfInBounds_comm _ _ hji]
      exact h3.2
theorem headQ_lex {n g : Nat} {Lq : Act → Prop} (hsel : Region.noSelect ops = true) (hs : Region.sinkB md ops n = true) (hc : Region.chainB md ops n = true) (hn : n < ops.size) :
    ∀ (l : List Oper) (k : Nat) (listed : Array Bool) (a : Act), (∀ j, j < l.length → l[j]? = ops[k + j]?) → k + l.length = n → HeadInv md ops n listed →
    Region.lexHead md ops g l.length k listed = true → wpQuiet P ops C Lq l a →
    headQ P md ops C n (fun listed' a' => Region.seqB md ops g n listed' = true ∧ Lq a') l.length listed a
  | [], k, listed, a, _, hk, _, hB, h => by
    have : k = n := by simpa using hk
    subst this
    exact ⟨by simpa [Region.lexHead] using hB, h⟩
  | o :: l, k, listed, a, hl, hk, inv, hB, h => by
    have h0 : ops[k]? = some o := by simpa using (hl 0 (by simp)).symm
    simp only [List.length_cons, Region.lexHead, Bool.and_eq_true] at hB
    obtain ⟨⟨hr, hf⟩, hB'⟩ := hB
    have hkn : k < n := by simp only [List.length_cons] at hk; omega
    have hr' : k ∈ Region.ready md ops listed := by simpa using hr
    have hst : qOp P ops C k (wpQuiet P ops C Lq l) a := by unfold qOp; simp only [h0]; exact h
    obtain ⟨v, hy, hK⟩ := yieldsIn_of_qOp h0 hst
    exact headQ_first h0 (Region.noSelect_spec hsel) hs hc hn hkn (fun listed' a' hL => seqB_ready hL.1) l.length listed a inv (Region.free_spec h0 hf) hr' hy
      (headQ_lex hsel hs hc hn l (k + 1) _ _ (fun j hj => by have := hl (j + 1) (by simp; omega); simpa [Nat.add_assoc, Nat.add_comm 1 j] using this) (by simp only [List.length_cons] at hk; omega) (inv.set hr' hkn) hB' hK)
/-- a quiet head of n operations, a tail in one order -/
theorem wp_region_quiet_tail {id : Nat} {Q : Exit → Act → World → Prop} {a : Act} {w : World} {l : List Oper} (n : Nat) (hm : P.follows .mixedOrders = true) (hB : Region.lexTailB .any l.toArray n = true) (hC : C w.drew)
    (h : wpQuiet P l.toArray C (fun a' => ∀ w', C w' → wpList P l.toArray Q (l.drop n) a' w') (l.take n) a) : (Code.region id l.toArray true).wp P Q a w := by
  simp only [Region.lexTailB, Bool.and_eq_true, decide_eq_true_eq] at hB
  obtain ⟨⟨⟨⟨hsel, hn⟩, hs⟩, hc⟩, hlex⟩ := hB
  have hn' : n < l.length := by simpa using hn
  have htl : (l.take n).length = n := by simp; omega
  have hdl : (l.drop n).length = l.toArray.size - n := by simp
  have inv0 : HeadInv .any l.toArray n (Array.replicate l.toArray.size false) :=
    ⟨by simp, fun j oj _ hl => (by rw [getD_replicate_false] at hl; cases hl), fun t _ ht => getD_in (by simpa using ht) (getD_replicate_false _ _)⟩
  have H := headQ_lex (md := .any) (g := l.toArray.size - n) hsel hs hc hn (l.take n) 0 _ a (fun j hj => by
    have hj' : j < n := by rw [htl] at hj; exact hj
    simp [hj']) (by simpa using htl) inv0 (by rw [htl]; exact hlex) h
  refine wp_region_any hm ?_
  have := wpAny_of_headQ (Q' := Q) (g := l.toArray.size - n) (fun listed a' w' hw' hL => by
    have := wpAny_of_seq (md := .any) (Q' := Q) (l.drop n) n listed a' w' (fun j => by simp [List.getElem?_drop]) (by rw [hdl]; exact hL.1) (hL.2 w' hw')
    rwa [hdl] at this) _ _ _ _ hC H
  rw [htl, show n + (l.toArray.size - n) = l.toArray.size by omega] at this
  exact this
/-- .. at the class 'what lay in w lies' -/
theorem wp_region_below_tail {id : Nat} {Q : Exit → Act → World → Prop} {a : Act} {w : World} {l : List Oper} (n : Nat) (hm : P.follows .mixedOrders = true) (hB : Region.lexTailB .any l.toArray n = true)
    (h : wpQuiet P l.toArray (fun w' => ∃ p : Regrown, w' = grow (redrawn w p.d) p.os) (fun a' => ∀ w', Below w.heap.size w w' → wpList P l.toArray Q (l.drop n) a' w') (l.take n) a) : (Code.region id l.toArray true).wp P Q a w :=
  wp_region_quiet_tail (C := fun w' => ∃ p : Regrown, w' = grow (redrawn w p.d) p.os) n hm hB ⟨⟨w.drawn + 1, #[]⟩, by rw [grow_empty]; rfl⟩ (by
    have mono : ∀ (l' : List Oper) (a : Act), wpQuiet P l.toArray (fun w' => ∃ p : Regrown, w' = grow (redrawn w p.d) p.os) (fun a' => ∀ w', Below w.heap.size w w' → wpList P l.toArray Q (l.drop n) a' w') l' a → wpQuiet P l.toArray (fun w' => ∃ p : Regrown, w' = grow (redrawn w p.d) p.os) (fun a' => ∀ w', (∃ p : Regrown, w' = grow (redrawn w p.d) p.os) → wpList P l.toArray Q (l.drop n) a' w') l' a := by
      intro l'
      induction l' with
      | nil => intro a h w' hw'; obtain ⟨p, rfl⟩ := hw'; exact h _ (below_regrown w p.d p.os)
      | cons o l' ih =>
        intro a h
        unfold wpQuiet at h ⊢
        split
        · rename_i q; rw [if_pos q] at h; exact Oper.quiet_mono ih h
        · rename_i q; rw [if_neg q] at h; exact ih _ h
    exact mono _ _ h)
/-- .. at the class 'w after some draws, with some blocks laid' -/
theorem wp_region_grown_tail {id : Nat} {Q : Exit → Act → World → Prop} {a : Act} {w : World} {l : List Oper} (n : Nat) (hm : P.follows .mixedOrders = true) (hB : Region.lexTailB .any l.toArray n = true)
    (h : wpQuiet P l.toArray (fun w' => ∃ p : GrownBy, w' = grow (w.drewN p.n) p.os) (fun a' => ∀ w', (∃ p : GrownBy, w' = grow (w.drewN p.n) p.os) → wpList P l.toArray Q (l.drop n) a' w') (l.take n) a) : (Code.region id l.toArray true).wp P Q a w :=
  wp_region_quiet_tail (C := fun w' => ∃ p : GrownBy, w' = grow (w.drewN p.n) p.os) n hm hB ⟨⟨1, #[]⟩, by rw [grow_empty]; rfl⟩ h
/-- w' is w after some draws, with some blocks laid behind it -/
def GrB (w w' : World) : Prop := ∃ q os, w' = grow (w.drewN q) os
theorem GrB.refl (w : World) : GrB w w := ⟨0, #[], by rw [grow_empty]; rfl⟩
theorem GrB.trans {a b c : World} (h : GrB a b) (k : GrB b c) : GrB a c := by
  obtain ⟨q, os, rfl⟩ := h
  obtain ⟨q', os', rfl⟩ := k
  exact ⟨q + q', os ++ os', by show grow (grow ((a.drewN q).drewN q') os) os' = _; rw [grow_grow, World.drewN_drewN]⟩
theorem GrB.alloc {a b : World} (h : GrB a b) (o : Obj) : GrB a (b.alloc o) := h.trans ⟨0, #[o], by show ({ b with heap := b.heap.push o } : World) = { b with heap := b.heap ++ #[o] }; congr 1⟩
theorem GrB.drewN {a b : World} (h : GrB a b) (n : Nat) : GrB a (b.drewN n) := h.trans ⟨n, #[], by rw [grow_empty]⟩
theorem GrB.drew {a b : World} (h : GrB a b) : GrB a b.drew := h.drewN 1
theorem GrB.below {a b : World} (h : GrB a b) : Below a.heap.size a b := by
  obtain ⟨q, os, rfl⟩ := h
  exact ⟨rfl, rfl, rfl, by simp [grow], fun k hk => by
    show (a.heap ++ os)[k]? = _
    rw [Array.getElem?_append_left hk]⟩
end
end Go.Tw
/-
  Layer 37 (post): text.Format.
-/
namespace Go.Tw.Po
open Go.RowKit Go.Tw
theorem nDigits_le : ∀ (k u : Nat), u < 10 ^ (k + 1) → Lib.nDigits u ≤ k + 1
  | 0, u, h => by rw [Lib.nDigits_small (by simpa using h)]; exact Nat.le_refl _
  | k + 1, u, h => by
    by_cases q : u < 10
    · rw [Lib.nDigits_small q]; omega
    · rw [Lib.nDigits_big q]
      rw [Nat.pow_succ] at h
      have := nDigits_le k (u / 10) (by omega)
      omega
theorem fmt_size {n : Int} (h : i64ok n) : (fmtS n).size ≤ 20 := by
  unfold i64ok at h
  have hd : ∀ u : Nat, u < 10 ^ 19 → (Lib.decDigits u).length ≤ 19 := fun u hu => by
    rw [Lib.decDigits_length]
    exact nDigits_le 18 u hu
  show (Lib.itoa n).length ≤ 20
  unfold Lib.itoa
  split
  · rw [List.length_cons]
    have := hd n.natAbs (by omega)
    omega
  · have := hd n.toNat (by omega)
    omega
end Go.Tw.Po
namespace Go.Proofs.YtifcelebfagjbaaGreatDoor
open Go.RowKit Go.Tw Go.Tw.Ord Go.Tw.Po Go.Sort
/-- text.Format yields the numeral, wherever it is called from -/
def FmtOk (n : Int) (w : World) : Prop := ∀ w', Below w.heap.size w w' → Calls Tryz.prog 69 #[.int .i64 n] w' fun e w'' => e = .returned (.string (fmtS n)) ∧ GrB w' w''
theorem FmtOk.step {n : Int} {w w' : World} (h : FmtOk n w) (hb : Below w.heap.size w w') : FmtOk n w' := fun w'' hw => h w'' (bl_trans hb hw)
set_option maxHeartbeats 400000 in
theorem fmt_of (n : Int) (w : World) (h : Calls Tryz.prog 107 #[.int .i64 n] w fun e w' => e = .returned (.string (fmtS n)) ∧ GrB w w') : Calls Tryz.prog 69 #[.int .i64 n] w fun e w' => e = .returned (.string (fmtS n)) ∧ GrB w w' := by
  have H := Lib.hid h
  clear h
  go_enter Tryz.func69, Tryz.ntmps69
  go_wp2_with (go_at_call 107
               with_reducible refine H.out.mono ?_
               rintro e w1 ⟨rfl, hg⟩
               have HG := Lib.hid hg
               clear hg)
  go_ret
  exact ⟨rfl, HG.out⟩
end Go.Proofs.YtifcelebfagjbaaGreatDoor
