/-
  Layer 10 (plate): the walks: Like, first, cut, least.
-/
import Derived.Test.YthpmclhpagcbiaaPlateWalk
import Derived.Test.YthpmclhpagcbiaaShelf
namespace Go.Tw
open Go.RowKit
def kU8 : KeyTy Int where
  val := .int .u8
  d := .int .u8
  plain := fun P kt b w x h => by rw [show (10000 : Nat) = 9999 + 1 from rfl, Instr.checkKey]; simp [run_underlying h]
  same := fun a b => by simp only [Instr.sameNow, if_true]; by_cases h : a = b <;> simp [h]
  bits := fun a => by simp [Instr.sameBits]
  inj := fun a b h => by simpa using h
theorem wpList_ins {κ : Type} [DecidableEq κ] {K : KeyTy κ} {P : Program} {w : World} {b n : Nat} {f : κ → Option Value} {ops : Array Oper} {rest : List Oper} {o : Oper} {a : Act} {Q : Exit → Act → World → Prop}
    (m x v : Operand) (hg : o.guard = none) (t : TypeId) (hop : o.op = Op.insert t m x v) {kt e : TypeId} (ht : P.underlying t = some (.map kt e)) (hk : P.underlying kt = some K.d) (h : MapIs K w b f n)
    (hm : a.eval m = .map (some b)) (key : κ) (kv val : Value) (hkv : K.val key = kv) (hx : a.eval x = kv) (hv : a.eval v = val)
    (hK : ∀ w', MapIs K w' b (fun y => if y = key then some val else f y) (n + 1) → w.grownBy w' (some b) → wpList P ops Q rest (a.put o.dst undef) w') : wpList P ops Q (o :: rest) a w := by
  refine wpList_plain hg fun K' hK' => ?_
  subst hkv
  obtain ⟨w', hrun, r1, r2⟩ := h.put ht hk key val
  unfold Oper.wp
  simp [execOp, hop, hm, hx, hv, hrun, Result.andThen]
  exact hK' _ _ (hK w' r1 r2)
theorem wpList_ins2 {κ : Type} [DecidableEq κ] {K : KeyTy κ} {P : Program} {w w0 : World} {b n B : Nat} {f : κ → Option Value} {ops : Array Oper} {rest : List Oper} {o : Oper} {a : Act} {Q : Exit → Act → World → Prop}
    (m x v : Operand) (hg : o.guard = none) (t : TypeId) (hop : o.op = Op.insert t m x v) {kt e : TypeId} (ht : P.underlying t = some (.map kt e)) (hk : P.underlying kt = some K.d) (h : MapIs K w b f n) (hbl : Below B w0 w) (hB : B ≤ b)
    (hm : a.eval m = .map (some b)) (key : κ) (kv val : Value) (hkv : K.val key = kv) (hx : a.eval x = kv) (hv : a.eval v = val)
    (hK : ∀ w', MapIs K w' b (fun y => if y = key then some val else f y) (n + 1) → Below B w0 w' → wpList P ops Q rest (a.put o.dst undef) w') : wpList P ops Q (o :: rest) a w :=
  wpList_ins m x v hg t hop ht hk h hm key kv val hkv hx hv fun w' h1 h2 => hK w' h1 (hbl.trans (Below.of_grown h2 (Nat.le_of_lt (Nat.lt_of_le_of_lt hB h.lt)) (fun k hk => by
    simp only [Option.some.injEq] at hk
    omega)))
end Go.Tw
namespace Go.Proofs.Ythpmclhpagcbiaa
open Go.RowKit Go.Tw Go.Tw.Plate

theorem first_any (s : ByteArray) (w : World) (hs : s.size ≤ 1000000) :
    Calls Try.prog 29 #[.string s] w fun e w' => e = .returned (.string (s.extract 0 (min s.size 32))) ∧ w = w' := by
  by_cases h : s.size < 32
  · have h1 : (s.size : Int) < 32 := by omega
    have h2 : min (s.size : Int) 32 = (s.size : Int) := by omega
    go_enter Try.func29, Try.ntmps29
    go_wp2
    go_ret
    exact ⟨by rw [Nat.min_eq_left (by omega), ByteArray.extract_zero_size]; rfl, rfl⟩
  · have h1 : ¬ (s.size : Int) < 32 := by omega
    have h2 : min (s.size : Int) 32 = 32 := by omega
    go_enter Try.func29, Try.ntmps29
    go_wp2
    go_ret
    exact ⟨by rw [Nat.min_eq_right (by omega)]; rfl, rfl⟩
theorem cut_any (s : ByteArray) (w : World) (hs : s.size ≤ 1000000) :
    Calls Try.prog 30 #[.string s] w fun e w' => e = .returned (.string (s.extract 0 (min s.size 32))) ∧ w = w' := by
  by_cases h : 32 < s.size
  · have h1 : (32 : Int) < (s.size : Int) := by omega
    go_enter Try.func30, Try.ntmps30
    go_wp2
    go_ret
    exact ⟨by rw [Nat.min_eq_right (by omega)]; rfl, rfl⟩
  · have h1 : ¬ (32 : Int) < (s.size : Int) := by omega
    go_enter Try.func30, Try.ntmps30
    go_wp2
    go_ret
    exact ⟨by rw [Nat.min_eq_left (by omega), ByteArray.extract_zero_size]; rfl, rfl⟩
theorem least_any (a b : Int) (w : World) :
    Calls Try.prog 31 #[.int .i64 a, .int .i64 b] w fun e w' => e = .returned (.int .i64 (min a b)) ∧ w = w' := by
  go_enter Try.func31, Try.ntmps31
  go_wp2
  all_goals
    go_ret
    exact ⟨ret_int (by omega), rfl⟩
theorem ib {b : Int} (hb : isByte b) (k : UInt8) : (k == b.toNat.toUInt8) = (b == (k.toNat : Int)) := by
  unfold isByte at hb
  rw [Bool.eq_iff_iff]
  simp only [beq_iff_eq]
  constructor
  · rintro rfl
    have : b.toNat.toUInt8.toNat = b.toNat := by
      rw [Nat.toUInt8_eq, UInt8.toNat_ofNat']; omega
    omega
  · intro h
    rw [h, Int.toNat_natCast, Nat.toUInt8_eq, UInt8.ofNat_toNat]
/-- the pairs of a byte -/
def pairS (a : Int) : ByteArray := if a = 85 then ⟨#[86]⟩ else if a = 54 then ⟨#[71]⟩ else if a = 56 then ⟨#[66]⟩ else if a = 53 then ⟨#[83]⟩ else if a = 50 then ⟨#[90]⟩ else if a = 49 then ⟨#[73]⟩ else if a = 48 then ⟨#[79, 68, 81]⟩ else ByteArray.empty
theorem ixmem (c : UInt8) : ∀ l : List UInt8, (0 ≤ Lib.indexByte l c) ↔ (l.any (· == c) = true)
  | [] => by
    show (0 : Int) ≤ -1 ↔ _
    simp
  | b :: l => by
    have hg := Lib.indexByte_ge l c
    have ih := ixmem c l
    show (0 ≤ if (b == c) = true then 0 else if (Lib.indexByte l c == -1) = true then -1 else Lib.indexByte l c + 1) ↔ _
    rw [List.any_cons, Bool.or_eq_true, ← ih]
    by_cases h : (b == c) = true
    · rw [if_pos h]; simp [h]
    · rw [if_neg h]
      by_cases h2 : (Lib.indexByte l c == -1) = true
      · rw [if_pos h2]
        have h3 : Lib.indexByte l c = -1 := by simpa using h2
        rw [h3]; simp [h]
      · rw [if_neg h2]
        have h3 : ¬ Lib.indexByte l c = -1 := by simpa using h2
        constructor
        · intro _; right; omega
        · rintro (q | q)
          · exact absurd q h
          · omega
theorem ix1 {b : Int} (hb : isByte b) (k : UInt8) : decide (0 ≤ Lib.indexByte [k] b.toNat.toUInt8) = (b == (k.toNat : Int)) := by
  rw [← ib hb, Bool.eq_iff_iff, decide_eq_true_iff, ixmem]
  simp
theorem pair_like {a b : Int} (hb : isByte b) : decide (0 ≤ Lib.indexByte (pairS a).data.toList b.toNat.toUInt8) = like1 a b := by
  unfold pairS like1
  by_cases h1 : a = 85
  · subst h1; rw [if_pos rfl]; exact (ix1 hb 86).trans (by simp)
  by_cases h2 : a = 54
  · subst h2; simp only [if_neg h1, if_true]; exact (ix1 hb 71).trans (by simp)
  by_cases h3 : a = 56
  · subst h3; simp only [if_neg h1, if_neg h2, if_true]; exact (ix1 hb 66).trans (by simp)
  by_cases h4 : a = 53
  · subst h4; simp only [if_neg h1, if_neg h2, if_neg h3, if_true]; exact (ix1 hb 83).trans (by simp)
  by_cases h5 : a = 50
  · subst h5; simp only [if_neg h1, if_neg h2, if_neg h3, if_neg h4, if_true]; exact (ix1 hb 90).trans (by simp)
  by_cases h6 : a = 49
  · subst h6; simp only [if_neg h1, if_neg h2, if_neg h3, if_neg h4, if_neg h5, if_true]; exact (ix1 hb 73).trans (by simp)
  by_cases h7 : a = 48
  · subst h7
    simp only [if_neg h1, if_neg h2, if_neg h3, if_neg h4, if_neg h5, if_neg h6, if_true]
    rw [Bool.eq_iff_iff, decide_eq_true_iff, ixmem]
    simp only [List.any_cons, List.any_nil, ib hb]
    simp
    omega
  · simp only [if_neg h1, if_neg h2, if_neg h3, if_neg h4, if_neg h5, if_neg h6, if_neg h7]
    have hn : ¬ (0 ≤ Lib.indexByte ByteArray.empty.data.toList b.toNat.toUInt8) := by rw [ixmem, show ByteArray.empty.data.toList = ([] : List UInt8) from rfl]; simp
    rw [decide_eq_false hn, show (a == 85) = false by simpa using h1, show (a == 54) = false by simpa using h2, show (a == 56) = false by simpa using h3, show (a == 53) = false by simpa using h4, show (a == 50) = false by simpa using h5, show (a == 49) = false by simpa using h6, show (a == 48) = false by simpa using h7]
    rfl

theorem pair_run {w : World} {b : Nat} (h : MapIs kU8 w b (fun y => if y = 85 then some (.string ⟨#[86]⟩) else if y = 54 then some (.string ⟨#[71]⟩) else if y = 56 then some (.string ⟨#[66]⟩) else if y = 53 then some (.string ⟨#[83]⟩) else if y = 50 then some (.string ⟨#[90]⟩) else if y = 49 then some (.string ⟨#[73]⟩) else if y = 48 then some (.string ⟨#[79, 68, 81]⟩) else none) 7) :
    ∀ x : Int, (Instr.lookup 42 (.map (some b)) (.int .u8 x) false).run Try.prog w = .ok (.string (pairS x)) w := fun x => by
  have := h.look Try.underlying42 Try.underlying5 (z := .string ByteArray.empty) (by kernel_rfl) x false
  simp only [Bool.false_eq_true, if_false] at this
  refine this.trans ?_
  congr 1
  unfold pairS
  by_cases h1 : x = 85
  · simp only [h1, if_true]; rfl
  by_cases h2 : x = 54
  · simp only [h2, if_true]; rfl
  by_cases h3 : x = 56
  · simp only [h3, if_true]; rfl
  by_cases h4 : x = 53
  · simp only [h4, if_true]; rfl
  by_cases h5 : x = 50
  · simp only [h5, if_true]; rfl
  by_cases h6 : x = 49
  · simp only [h6, if_true]; rfl
  by_cases h7 : x = 48
  · simp only [h7, if_true]; rfl
  · simp only [if_neg h1, if_neg h2, if_neg h3, if_neg h4, if_neg h5, if_neg h6, if_neg h7]; rfl
set_option maxHeartbeats 1000000 in
theorem Like_any (a b : Int) (w : World) (ha : isByte a) (hb : isByte b) :
    Calls Try.prog 14 #[.int .u8 a, .int .u8 b] w fun e w' => e = .returned (.bool (like a b)) ∧ Below w.heap.size w w' := by
  have hmm := @run_makeMap Try.prog
  have hs := MapIs.made (K := kU8) w
  have hb0 : Below w.heap.size w (w.alloc (.map #[] 0)) := bl_alloc (Below.refl _ _) _
  have HA := Lib.hid (pair_like (a := a) hb)
  have HB := Lib.hid (pair_like (a := b) ha)
  rcases Bool.eq_false_or_eq_true (like1 a b) with h1 | h1 <;> rcases Bool.eq_false_or_eq_true (like1 b a) with h2 | h2
  all_goals
    have e1 := HA.out.trans h1
    have e2 := HB.out.trans h2
    have HR := Lib.hid (show like a b = _ by unfold like; rw [h1, h2])
    clear h1 h2
    go_enter Try.func14, Try.ntmps14
    go_wp2_with (first
      | (refine wpList_ins2 (K := kU8) (.tmp 6) (.const (.int .u8 48)) (.const (.string ⟨#[79, 68, 81]⟩)) rfl 42 rfl Try.underlying42 Try.underlying5 (by assumption) (by assumption) (Nat.le_refl _) rfl 48 (.int .u8 48) (.string ⟨#[79, 68, 81]⟩) rfl rfl rfl ?_; intro w48 hs48 hb48)
      | (refine wpList_ins2 (K := kU8) (.tmp 6) (.const (.int .u8 49)) (.const (.string ⟨#[73]⟩)) rfl 42 rfl Try.underlying42 Try.underlying5 (by assumption) (by assumption) (Nat.le_refl _) rfl 49 (.int .u8 49) (.string ⟨#[73]⟩) rfl rfl rfl ?_; intro w49 hs49 hb49)
      | (refine wpList_ins2 (K := kU8) (.tmp 6) (.const (.int .u8 50)) (.const (.string ⟨#[90]⟩)) rfl 42 rfl Try.underlying42 Try.underlying5 (by assumption) (by assumption) (Nat.le_refl _) rfl 50 (.int .u8 50) (.string ⟨#[90]⟩) rfl rfl rfl ?_; intro w50 hs50 hb50)
      | (refine wpList_ins2 (K := kU8) (.tmp 6) (.const (.int .u8 53)) (.const (.string ⟨#[83]⟩)) rfl 42 rfl Try.underlying42 Try.underlying5 (by assumption) (by assumption) (Nat.le_refl _) rfl 53 (.int .u8 53) (.string ⟨#[83]⟩) rfl rfl rfl ?_; intro w53 hs53 hb53)
      | (refine wpList_ins2 (K := kU8) (.tmp 6) (.const (.int .u8 56)) (.const (.string ⟨#[66]⟩)) rfl 42 rfl Try.underlying42 Try.underlying5 (by assumption) (by assumption) (Nat.le_refl _) rfl 56 (.int .u8 56) (.string ⟨#[66]⟩) rfl rfl rfl ?_; intro w56 hs56 hb56)
      | (refine wpList_ins2 (K := kU8) (.tmp 6) (.const (.int .u8 54)) (.const (.string ⟨#[71]⟩)) rfl 42 rfl Try.underlying42 Try.underlying5 (by assumption) (by assumption) (Nat.le_refl _) rfl 54 (.int .u8 54) (.string ⟨#[71]⟩) rfl rfl rfl ?_; intro w54 hs54 hb54)
      | ((refine wpList_ins2 (K := kU8) (.tmp 6) (.const (.int .u8 85)) (.const (.string ⟨#[86]⟩)) rfl 42 rfl Try.underlying42 Try.underlying5 (by assumption) (by assumption) (Nat.le_refl _) rfl 85 (.int .u8 85) (.string ⟨#[86]⟩) rfl rfl rfl ?_; intro w85 hs85 hb85)
         have hp := pair_run hs85
         clear hs hs48 hs49 hs50 hs53 hs56 hs54 hs85 hb0 hb48 hb49 hb50 hb53 hb56 hb54)
      | (go_at_call 28; refine (Try.strings_IndexByte _ _ _).mono ?_; rintro e w' ⟨rfl, rfl⟩))
    go_ret
    exact ⟨ret_bool (by rw [HR.out]; rfl), hb85⟩

def pairsL : List (Int × Int) := [(48, 79), (48, 68), (48, 81), (49, 73), (50, 90), (53, 83), (56, 66), (54, 71), (85, 86)]
def isPair (a b : Int) (p : Int × Int) : Bool := (p.1 == a && p.2 == b) || (p.1 == b && p.2 == a)
theorem like1_pairs (a b : Int) : like1 a b = pairsL.any fun p => p.1 == a && p.2 == b := by
  have bc : ∀ x y : Int, (x == y) = (y == x) := fun x y => by rw [Bool.eq_iff_iff]; simp; omega
  simp only [like1, pairsL, List.any_cons, List.any_nil, bc 48 a, bc 49 a, bc 50 a, bc 53 a, bc 56 a, bc 54 a, bc 85 a, bc 79 b, bc 68 b, bc 81 b, bc 73 b, bc 90 b, bc 83 b, bc 66 b, bc 71 b, bc 86 b, Bool.and_or_distrib_left, Bool.or_assoc, Bool.or_false]
theorem any_or {α : Type} (p q : α → Bool) : ∀ l : List α, (l.any fun x => p x || q x) = (l.any p || l.any q)
  | [] => rfl
  | x :: l => by
    rw [List.any_cons, List.any_cons, List.any_cons, any_or p q l]
    cases p x <;> cases q x <;> cases l.any p <;> cases l.any q <;> rfl
theorem like_pairs (a b : Int) : like a b = pairsL.any (isPair a b) := by
  unfold like
  rw [like1_pairs, like1_pairs, ← any_or]
  rfl
theorem pair_at : ∀ n (h : n < 9), pairsL[n] = ((((⟨#[48, 79, 48, 68, 48, 81, 49, 73, 50, 90, 53, 83, 56, 66, 54, 71, 85, 86]⟩ : ByteArray)[2 * n]'(by show 2 * n < 18; omega)).toNat : Int), (((⟨#[48, 79, 48, 68, 48, 81, 49, 73, 50, 90, 53, 83, 56, 66, 54, 71, 85, 86]⟩ : ByteArray)[2 * n + 1]'(by show 2 * n + 1 < 18; omega)).toNat : Int))
  | 0, _ | 1, _ | 2, _ | 3, _ | 4, _ | 5, _ | 6, _ | 7, _ | 8, _ => rfl
theorem pair_at' {n : Nat} (h : n < 9) {m : Nat} (hm : m = 2 * n) (h1 : m < 18) (h2 : m + 1 < 18) : pairsL[n] = ((((⟨#[48, 79, 48, 68, 48, 81, 49, 73, 50, 90, 53, 83, 56, 66, 54, 71, 85, 86]⟩ : ByteArray)[m]'h1).toNat : Int), (((⟨#[48, 79, 48, 68, 48, 81, 49, 73, 50, 90, 53, 83, 56, 66, 54, 71, 85, 86]⟩ : ByteArray)[m + 1]'h2).toNat : Int)) := by
  subst hm
  exact pair_at n h
theorem pairs_drop {a b : Int} {n : Nat} (h : n < 9) : (pairsL.drop n).any (isPair a b) = (isPair a b pairsL[n] || (pairsL.drop (n + 1)).any (isPair a b)) := by
  rw [List.drop_eq_getElem_cons (show n < pairsL.length from h), List.any_cons]; rfl
theorem hq_of {a b c d : Int} {p : Int × Int} (h : p = (c, d)) {x1 x2 x3 x4 : Bool} (h1 : (c == a) = x1) (h2 : (d == b) = x2) (h3 : (c == b) = x3) (h4 : (d == a) = x4) : isPair a b p = ((x1 && x2) || (x3 && x4)) := by
  subst h
  unfold isPair
  rw [h1, h2, h3, h4]
theorem beq_cases (x y : Int) : (x == y) = true ∨ (x == y) = false := by cases x == y <;> simp
set_option maxRecDepth 100000 in
set_option maxHeartbeats 4000000 in
theorem LikeR_any (a b : Int) (w : World) :
    Calls Try.prog 15 #[.int .u8 a, .int .u8 b] w fun e w' => e = .returned (.bool (like a b)) ∧ Below w.heap.size w w' := by
  go_enter Try.func15, Try.ntmps15
  go_wp2
  go_loopg [6] 9 (fun g i wr => ∃ n : Nat, n + g = 9 ∧ i = .int .i64 ((2 * n : Nat) : Int) ∧ like a b = (pairsL.drop n).any (isPair a b) ∧ w = wr)
  case atStart => exact ⟨0, by omega, rfl, like_pairs a b, rfl⟩
  case round =>
    obtain ⟨n, hn, rfl, he, rfl⟩ := hrel
    have HE := Lib.hid he; clear he
    by_cases hlt : n < 9
    · have HD := Lib.hid (pairs_drop (a := a) (b := b) hlt)
      obtain ⟨m, hm⟩ : ∃ m, m = 2 * n := ⟨_, rfl⟩
      have HM := Lib.hid hm
      have m1 : (m : Int) < 18 := by omega
      have m2 : (m : Int) + 1 < 18 := by omega
      have m3 : m < 18 := by omega
      have m4 : m + 1 < 18 := by omega
      have HP := Lib.hid (pair_at' hlt hm m3 m4)
      rw [← hm]
      have hw1 : IntKind.i64.wrap ((m : Int) + 1) = (m : Int) + 1 := wrap_in (by omega) (by omega)
      have hw2 : IntKind.i64.wrap ((m : Int) + 2) = (m : Int) + 2 := wrap_in (by omega) (by omega)
      have m5 : (0 : Int) ≤ (m : Int) + 1 := by omega
      have m6 : ((m : Int) + 1).toNat = m + 1 := by omega
      clear hm
      rcases beq_cases (((⟨#[48, 79, 48, 68, 48, 81, 49, 73, 50, 90, 53, 83, 56, 66, 54, 71, 85, 86]⟩ : ByteArray)[m]'m3).toNat : Int) a with x1 | x1 <;>
      rcases beq_cases (((⟨#[48, 79, 48, 68, 48, 81, 49, 73, 50, 90, 53, 83, 56, 66, 54, 71, 85, 86]⟩ : ByteArray)[m + 1]'m4).toNat : Int) b with x2 | x2 <;>
      rcases beq_cases (((⟨#[48, 79, 48, 68, 48, 81, 49, 73, 50, 90, 53, 83, 56, 66, 54, 71, 85, 86]⟩ : ByteArray)[m]'m3).toNat : Int) b with x3 | x3 <;>
      rcases beq_cases (((⟨#[48, 79, 48, 68, 48, 81, 49, 73, 50, 90, 53, 83, 56, 66, 54, 71, 85, 86]⟩ : ByteArray)[m + 1]'m4).toNat : Int) a with x4 | x4
      all_goals
        have HQ := Lib.hid (hq_of HP.out x1 x2 x3 x4)
        go_wp2
        first
          | (go_ret
             exact ⟨ret_bool (by rw [HE.out, HD.out, HQ.out]; rfl), Below.refl _ _⟩)
          | (go_roundg (9 - (n + 1))
             case measure => omega
             case rel => exact ⟨n + 1, by omega, by have := HM.out; congr 1; omega, by rw [HE.out, HD.out, HQ.out]; rfl, rfl⟩)
    · go_wp2
      go_ret
      exact ⟨ret_bool (by rw [HE.out, List.drop_eq_nil_of_le (by show 9 ≤ n; omega)]; rfl), Below.refl _ _⟩
end Go.Proofs.Ythpmclhpagcbiaa
