/-
  Layer 17 (passage): networks without links: the reference's valid, Find.
-/
import Derived.Test.YtbjhemglecllmaaDoorMgF
import Derived.Test.YtbjhemglecllmaaDoorMgA
import Derived.Test.YtbjhemglecllmaaDoorMgD
import Derived.Test.YtbjhemglecllmaaDoorProg
import Derived.Deep.RegionWith
import Derived.Lib.SmallJoins
import Derived.Test.YtbjhemglecllmaaDoorShelf
import Derived.WalkArith
import Derived.Laws.Shifts
namespace Go.Proofs.YtbjhemglecllmaaDoor
open Go.RowKit Go.Tw Go.Tw.Ord Go.Tw.Ps Go.Sort
set_option maxRecDepth 100000 in
set_option maxHeartbeats 2000000 in
theorem validR_any (l : List Pnt) (vl : Value) (w : World) (h : SlIs tPnt (· < w.heap.size) w vl l) (hl : l.length ≤ 1000) :
    Calls Tryd.prog 65 #[.agg #[vl, .slice none 0 0]] w fun e w' => ((netE l = 0 → e = .returned (.agg #[vl, .slice none 0 0])) ∧ (netE l ≠ 0 → e = .returned (.agg #[.slice none 0 0, .slice none 0 0]))) ∧ Below w.heap.size w w' := by
  have H := Lib.hid h
  obtain ⟨ao, cp, b, o, rfl, q1, q2, ho⟩ := pnt_row h
  clear ho h
  have n0 := alloc2_0 w (.cells #[.slice ao l.length cp, .slice none 0 0] 32) (.cells #[.slice none 0 0, .slice none 0 0] 32)
  have n1 := alloc2_1 w (.cells #[.slice ao l.length cp, .slice none 0 0] 32) (.cells #[.slice none 0 0, .slice none 0 0] 32)
  have HB0 := Lib.hid (bl_alloc (bl_alloc (Below.refl w.heap.size w) (.cells #[.slice ao l.length cp, .slice none 0 0] 32)) (.cells #[.slice none 0 0, .slice none 0 0] 32))
  go_enter Tryd.func65, Tryd.ntmps65
  go_upto_region 1 with (fail)
  obtain ⟨w0, hw0⟩ : ∃ w0, (w.alloc (.cells #[.slice ao l.length cp, .slice none 0 0] 32)).alloc (.cells #[.slice none 0 0, .slice none 0 0] 32) = w0 := ⟨_, rfl⟩
  rw [hw0] at n0 n1 HB0 ⊢
  clear hw0
  have HCK := Lib.hid (graphCheckR_any l _ w0 (H.out.step HB0.out) hl)
  obtain ⟨c, hc⟩ : ∃ c, netE l = c := ⟨_, rfl⟩
  rw [hc] at HCK
  have HNE := Lib.hid hc
  have hl0 := lt_of_heap n0
  have hl1 := lt_of_heap n1
  have N0 := Lib.hid n0
  have N1 := Lib.hid n1
  obtain ⟨a0, a1, -⟩ := blk2 n0
  clear n0 n1 hc
  by_cases hc0 : c = 0
  · have hc' : (c != 0) = false := by simp [hc0]
    have HC := Lib.hid hc0
    clear hc0
    go_wp2_with (go_at_call 81
                 with_reducible refine HCK.out.mono ?_
                 rintro e w1 ⟨rfl, hb1⟩
                 have m0 := (hb1.block _ hl0).trans N0.out
                 have m1 := (hb1.block _ hl1).trans N1.out
                 obtain ⟨d0, d1, df⟩ := blk2 m1
                 obtain ⟨a0, a1, -⟩ := blk2 m0
                 have HB1 := Lib.hid (bl_trans HB0.out hb1)
                 clear hb1 m1 m0)
    refine bodyPost_ret (v := .agg #[.slice ao l.length cp, .slice none 0 0]) (by simp [results, Tryd.results65, go_sem, d0, d1]) rfl ⟨⟨fun _ => rfl, fun q => absurd (HNE.out.trans HC.out) q⟩, ?_⟩
    (repeat (first | (with_reducible exact HB1.out) | (with_reducible apply bl_drewN) | (with_reducible apply bl_alloc) | ((with_reducible refine bl_set ?_ _ ?_); rotate_left; focus (first | exact Nat.le_refl _ | (simp; done) | (simp; omega)))))
  · have hc' : (c != 0) = true := by simp [hc0]
    have HC := Lib.hid hc0
    clear hc0
    go_wp2_with (go_at_call 81
                 with_reducible refine HCK.out.mono ?_
                 rintro e w1 ⟨rfl, hb1⟩
                 have m0 := (hb1.block _ hl0).trans N0.out
                 have m1 := (hb1.block _ hl1).trans N1.out
                 obtain ⟨d0, d1, df⟩ := blk2 m1
                 obtain ⟨a0, a1, -⟩ := blk2 m0
                 have HB1 := Lib.hid (bl_trans HB0.out hb1)
                 clear hb1 m1 m0)
    refine bodyPost_ret (v := .agg #[.slice none 0 0, .slice none 0 0]) (by simp [results, Tryd.results65, go_sem, d0, d1]) rfl ⟨⟨fun q => absurd (HNE.out.symm.trans q) HC.out, fun _ => rfl⟩, ?_⟩
    (repeat (first | (with_reducible exact HB1.out) | (with_reducible apply bl_drewN) | (with_reducible apply bl_alloc) | ((with_reducible refine bl_set ?_ _ ?_); rotate_left; focus (first | exact Nat.le_refl _ | (simp; done) | (simp; omega)))))
set_option maxRecDepth 100000 in
set_option maxHeartbeats 2000000 in
theorem graphFindR_any (l : List Pnt) (vl : Value) (s : ByteArray) (w : World) (h : SlIs tPnt (· < w.heap.size) w vl l) (hl : l.length ≤ 1000) :
    Calls Tryd.prog 38 #[.agg #[vl, .slice none 0 0], .string s] w fun e w' => (∃ a b c, e = .returned (.tuple #[.agg #[.string a, .int .i64 b, .string c], .bool (fndB l s)])) ∧ Below w.heap.size w w' := by
  have H := Lib.hid h
  obtain ⟨ao, cp, b, o, rfl, q1, q2, ho⟩ := pnt_row h
  unfold maxLen at q2
  have HO := Lib.hid ho
  clear ho h
  have n0 := alloc2_0 w (.cells #[.slice ao l.length cp, .slice none 0 0] 32) (.cells #[.string ByteArray.empty, .int .i64 0, .string ByteArray.empty] 29)
  have n1 := alloc2_1 w (.cells #[.slice ao l.length cp, .slice none 0 0] 32) (.cells #[.string ByteArray.empty, .int .i64 0, .string ByteArray.empty] 29)
  have HB0 := Lib.hid (bl_alloc (bl_alloc (Below.refl w.heap.size w) (.cells #[.slice ao l.length cp, .slice none 0 0] 32)) (.cells #[.string ByteArray.empty, .int .i64 0, .string ByteArray.empty] 29))
  have hzz : (⟨#[]⟩ : ByteArray) = ByteArray.empty := rfl
  go_enter Tryd.func38, Tryd.ntmps38
  go_upto_region 1 with (fail)
  (try simp only [hzz])
  clear hzz
  obtain ⟨w0, hw0⟩ : ∃ w0, (w.alloc (.cells #[.slice ao l.length cp, .slice none 0 0] 32)).alloc (.cells #[.string ByteArray.empty, .int .i64 0, .string ByteArray.empty] 29) = w0 := ⟨_, rfl⟩
  rw [hw0] at n0 n1 HB0 ⊢
  clear hw0
  have HV := Lib.hid (validR_any l _ w0 (H.out.step HB0.out) hl)
  have hl1 := lt_of_heap n1
  have N1 := Lib.hid n1
  obtain ⟨a0, a1, -⟩ := blk2 n0
  clear n0 n1
  by_cases hc0 : netE l = 0
  · have h64 := net_len hc0
    have HT := Lib.hid (show l.take 64 = l from List.take_of_length_le h64)
    have HF := Lib.hid (show fndB l s = hasS (l.map Pnt.nm) s from (fnd_good hc0).trans (fnd_has l s))
    have HC := Lib.hid hc0
    clear hc0 h64
    go_upto_region 2 with (go_at_call 65
                           with_reducible refine HV.out.mono ?_
                           rintro e w1 ⟨⟨hv1, -⟩, hb1⟩
                           obtain rfl := hv1 HC.out
                           have m1 := (hb1.block _ hl1).trans N1.out
                           have HB1 := Lib.hid (bl_trans HB0.out hb1)
                           clear hb1 a0 a1 hv1)
    have nv := heap_alloc_new w1 (.cells #[.slice ao l.length cp, .slice none 0 0] 32)
    have m2 := (Below.heap_alloc w1 (.cells #[.slice ao l.length cp, .slice none 0 0] 32) _ (lt_of_heap m1)).trans m1
    have HB2 := Lib.hid (bl_alloc HB1.out (.cells #[.slice ao l.length cp, .slice none 0 0] 32))
    generalize w1.alloc (.cells #[.slice ao l.length cp, .slice none 0 0] 32) = w2 at nv m2 HB2 ⊢
    generalize w1.heap.size = g1 at nv ⊢
    obtain ⟨e0, e1, -⟩ := blk2 nv
    obtain ⟨d0, d1, d2, df⟩ := blk3 m2
    have HP := Lib.hid (show Calls Tryd.prog 66 #[.slice ao l.length cp, .int .i64 64, .string s] w2 fun e w' => PlaceRes l 64 s e ∧ w' = w2 from place_any l _ 64 (by decide) s w2 (H.out.step HB2.out))
    clear m1 nv m2
    go_upto_region 3 with (go_at_call 66
                           with_reducible refine HP.out.mono ?_
                           rintro e w3 ⟨⟨ip, rfl, hip⟩, rfl⟩)
    rcases hip with ⟨rfl, hq⟩ | ⟨kk, rfl, hk1, hk2, hq⟩
    · rw [HT.out] at hq
      have HE := Lib.hid (HF.out.trans hq)
      clear hq
      go_wp2
      refine bodyPost_ret (v := .tuple #[.agg #[.string ByteArray.empty, .int .i64 0, .string ByteArray.empty], .bool false]) (by simp [results, Tryd.results38, go_sem, d0, d1, d2]; (try rfl)) rfl ⟨⟨_, _, _, by rw [HE.out]⟩, ?_⟩
      (repeat (first | (with_reducible exact HB2.out) | (with_reducible apply bl_drewN) | (with_reducible apply bl_alloc) | ((with_reducible refine bl_set ?_ _ ?_); rotate_left; focus (first | exact Nat.le_refl _ | (simp; done) | (simp; omega)))))
    · rw [HT.out] at hq
      have HE := Lib.hid (HF.out.trans hq)
      obtain ⟨rfl, -, hbk, hok, p0, p1, p2⟩ := HO.out _ (.of_below HB2.out) kk hk1
      generalize l[kk] = p at p0 p1 p2 hok
      have k0 : (0 : Int) ≤ (kk : Int) := by omega
      have k1 : (kk : Int) < (l.length : Int) := by omega
      have kn : ¬ (kk : Int) < 0 := by omega
      clear hq hk2 hbk
      go_wp2
      refine bodyPost_ret (v := .tuple #[.agg #[.string p.nm, .int .i64 p.kd, .string p.sy], .bool true]) (by simp [results, Tryd.results38, go_sem, d0, d1, d2]; (try rfl)) rfl ⟨⟨_, _, _, by rw [HE.out]⟩, ?_⟩
      (repeat (first | (with_reducible exact HB2.out) | (with_reducible apply bl_drewN) | (with_reducible apply bl_alloc) | ((with_reducible refine bl_set ?_ _ ?_); rotate_left; focus (first | exact Nat.le_refl _ | (simp; done) | (simp; omega)))))
  · have HF := Lib.hid (fnd_bad (s := s) hc0)
    have HC := Lib.hid hc0
    clear hc0
    go_upto_region 2 with (go_at_call 65
                           with_reducible refine HV.out.mono ?_
                           rintro e w1 ⟨⟨-, hv1⟩, hb1⟩
                           obtain rfl := hv1 HC.out
                           have m1 := (hb1.block _ hl1).trans N1.out
                           have HB1 := Lib.hid (bl_trans HB0.out hb1)
                           clear hb1 a0 a1 hv1)
    have nv := heap_alloc_new w1 (.cells #[.slice none 0 0, .slice none 0 0] 32)
    have m2 := (Below.heap_alloc w1 (.cells #[.slice none 0 0, .slice none 0 0] 32) _ (lt_of_heap m1)).trans m1
    have HB2 := Lib.hid (bl_alloc HB1.out (.cells #[.slice none 0 0, .slice none 0 0] 32))
    generalize w1.alloc (.cells #[.slice none 0 0, .slice none 0 0] 32) = w2 at nv m2 HB2 ⊢
    generalize w1.heap.size = g1 at nv ⊢
    obtain ⟨e0, e1, -⟩ := blk2 nv
    obtain ⟨d0, d1, d2, df⟩ := blk3 m2
    have HP := Lib.hid (show Calls Tryd.prog 66 #[.slice none 0 0, .int .i64 64, .string s] w2 fun e w' => PlaceRes [] 64 s e ∧ w' = w2 from place_any [] (.slice none 0 0) 64 (by decide) s w2 SlIs.nil)
    clear m1 nv m2
    go_upto_region 3 with (go_at_call 66
                           with_reducible refine HP.out.mono ?_
                           rintro e w3 ⟨⟨ip, rfl, hip⟩, rfl⟩)
    obtain rfl : ip = -1 := by
      rcases hip with ⟨q, -⟩ | ⟨_, -, q, -⟩
      · exact q
      · exact absurd q (Nat.not_lt_zero _)
    have HE := HF
    clear hip
    go_wp2
    refine bodyPost_ret (v := .tuple #[.agg #[.string ByteArray.empty, .int .i64 0, .string ByteArray.empty], .bool false]) (by simp [results, Tryd.results38, go_sem, d0, d1, d2]; (try rfl)) rfl ⟨⟨_, _, _, by rw [HE.out]⟩, ?_⟩
    (repeat (first | (with_reducible exact HB2.out) | (with_reducible apply bl_drewN) | (with_reducible apply bl_alloc) | ((with_reducible refine bl_set ?_ _ ?_); rotate_left; focus (first | exact Nat.le_refl _ | (simp; done) | (simp; omega)))))
end Go.Proofs.YtbjhemglecllmaaDoor
/-
  Layer 10 (plate) in plain Lean: what the program and the reference compute. No program in sight.
-/
namespace Go.Tw.Plate
open Go.RowKit

/-! ### Normal -/
def up (n : Int) : Int := if 97 ≤ n ∧ n ≤ 122 then n - 32 else n
def sep (n : Int) : Bool := n == 32 || n == 45
def okc (n : Int) : Bool := (decide (65 ≤ n) && decide (n ≤ 90)) || (decide (48 ≤ n) && decide (n ≤ 57))
def normGo (out : List Int) : List Int → Option (List Int)
  | [] => if out.length < 2 then none else some out
  | c :: r => if sep (up c) then normGo out r else if okc (up c) = false ∨ out.length = 10 then none else normGo (out ++ [up c]) r
def normGoR (out : List Int) : List Int → Option (List Int)
  | [] => if out.length < 2 ∨ 10 < out.length then none else some out
  | c :: r => if sep c then normGoR out r else if okc (up c) = false then none else normGoR (out ++ [up c]) r
theorem sep_up (c : Int) : sep (up c) = sep c := by
  unfold up
  split
  · rename_i h
    unfold sep
    rw [Bool.eq_iff_iff]
    simp; omega
  · rfl
theorem normR_long : ∀ (l out : List Int), 10 < out.length → normGoR out l = none
  | [], out, h => by rw [normGoR, if_pos (.inr h)]
  | c :: r, out, h => by
    rw [normGoR]
    split
    · exact normR_long r out h
    · split
      · rfl
      · exact normR_long r _ (by simp; omega)
theorem norm_eq : ∀ (l out : List Int), out.length ≤ 10 → normGoR out l = normGo out l
  | [], out, h => by
    rw [normGo, normGoR]
    by_cases q : out.length < 2
    · rw [if_pos q, if_pos (.inl q)]
    · rw [if_neg q, if_neg (by omega)]
  | c :: r, out, h => by
    rw [normGo, normGoR, sep_up]
    by_cases q : sep c = true
    · rw [if_pos q, if_pos q, norm_eq r out h]
    · rw [if_neg q, if_neg q]
      by_cases q2 : okc (up c) = false
      · rw [if_pos q2, if_pos (.inl q2)]
      · rw [if_neg q2]
        by_cases q3 : out.length = 10
        · rw [if_pos (.inr q3), normR_long _ _ (by simp; omega)]
        · rw [if_neg (by simp [q2, q3]), norm_eq r _ (by simp; omega)]
/-- the result: a string and an error -/
def normS (o : Option (List Int)) : ByteArray × Int := match o with | none => (ByteArray.empty, 19) | some l => (strOfNums l, 0)

theorem normGo_drop {out l : List Int} {k : Nat} (h : k < l.length) : normGo out (l.drop k) = if sep (up l[k]) then normGo out (l.drop (k + 1)) else if okc (up l[k]) = false ∨ out.length = 10 then none else normGo (out ++ [up l[k]]) (l.drop (k + 1)) := by
  rw [List.drop_eq_getElem_cons h, normGo]
theorem normGoR_drop {out l : List Int} {k : Nat} (h : k < l.length) : normGoR out (l.drop k) = if sep l[k] then normGoR out (l.drop (k + 1)) else if okc (up l[k]) = false then none else normGoR (out ++ [up l[k]]) (l.drop (k + 1)) := by
  rw [List.drop_eq_getElem_cons h, normGoR]
theorem up_byte {n : Int} (h : isByte n) : isByte (up n) := by unfold up isByte at *; split <;> omega

/-- the ways of one byte, in the tests' own words -/
theorem norm_ways {out l : List Int} {k : Nat} (h : k < l.length) {c : Int} (hc : l[k] = c) :
    (¬ 97 ≤ c ∧ (c == 32) = true ∧ normGo out (l.drop k) = normGo out (l.drop (k + 1)) ∧ normGoR out (l.drop k) = normGoR out (l.drop (k + 1))) ∨
    (¬ 97 ≤ c ∧ (c == 32) = false ∧ (c == 45) = true ∧ normGo out (l.drop k) = normGo out (l.drop (k + 1)) ∧ normGoR out (l.drop k) = normGoR out (l.drop (k + 1))) ∨
    (97 ≤ c ∧ c ≤ 122 ∧ (c == 32) = false ∧ (c == 45) = false ∧ (c - 32 == 32) = false ∧ (c - 32 == 45) = false ∧ 65 ≤ c - 32 ∧ c - 32 ≤ 90 ∧ normGo out (l.drop k) = (if out.length = 10 then none else normGo (out ++ [c - 32]) (l.drop (k + 1))) ∧ normGoR out (l.drop k) = normGoR (out ++ [c - 32]) (l.drop (k + 1))) ∨
    (¬ 97 ≤ c ∧ (c == 32) = false ∧ (c == 45) = false ∧ 65 ≤ c ∧ c ≤ 90 ∧ normGo out (l.drop k) = (if out.length = 10 then none else normGo (out ++ [c]) (l.drop (k + 1))) ∧ normGoR out (l.drop k) = normGoR (out ++ [c]) (l.drop (k + 1))) ∨
    (¬ 97 ≤ c ∧ (c == 32) = false ∧ (c == 45) = false ∧ c < 65 ∧ 48 ≤ c ∧ c ≤ 57 ∧ normGo out (l.drop k) = (if out.length = 10 then none else normGo (out ++ [c]) (l.drop (k + 1))) ∧ normGoR out (l.drop k) = normGoR (out ++ [c]) (l.drop (k + 1))) ∨
    (¬ 97 ≤ c ∧ (c == 32) = false ∧ (c == 45) = false ∧ c < 65 ∧ c < 48 ∧ normGo out (l.drop k) = none ∧ normGoR out (l.drop k) = none) ∨
    (¬ 97 ≤ c ∧ (c == 32) = false ∧ (c == 45) = false ∧ c < 65 ∧ 48 ≤ c ∧ 57 < c ∧ normGo out (l.drop k) = none ∧ normGoR out (l.drop k) = none) ∨
    (¬ 97 ≤ c ∧ (c == 32) = false ∧ (c == 45) = false ∧ 65 ≤ c ∧ 90 < c ∧ 48 ≤ c ∧ 57 < c ∧ normGo out (l.drop k) = none ∧ normGoR out (l.drop k) = none) ∨
    (97 ≤ c ∧ 122 < c ∧ (c == 32) = false ∧ (c == 45) = false ∧ 65 ≤ c ∧ 90 < c ∧ 48 ≤ c ∧ 57 < c ∧ normGo out (l.drop k) = none ∧ normGoR out (l.drop k) = none) := by
  rw [normGo_drop h, normGoR_drop h, hc]
  have hs : ∀ n : Int, sep n = true ↔ n = 32 ∨ n = 45 := fun n => by simp [sep]
  have ho : ∀ n : Int, okc n = false ↔ ¬ ((65 ≤ n ∧ n ≤ 90) ∨ (48 ≤ n ∧ n ≤ 57)) := fun n => by
    have : okc n = true ↔ ((65 ≤ n ∧ n ≤ 90) ∨ (48 ≤ n ∧ n ≤ 57)) := by simp [okc]
    rw [← Bool.not_eq_true, this]
  have hb : ∀ n m : Int, (n == m) = true ↔ n = m := fun n m => by simp
  have hb' : ∀ n m : Int, (n == m) = false ↔ ¬ n = m := fun n m => by simp
  simp only [hs, ho, hb, hb']
  rcases Int.lt_or_le c 97 with h1 | h1
  · have hu : up c = c := by unfold up; rw [if_neg (by omega)]
    rw [hu]
    by_cases a1 : c = 32
    · exact .inl ⟨by omega, a1, if_pos (.inl a1), if_pos (.inl a1)⟩
    by_cases a2 : c = 45
    · exact .inr (.inl ⟨by omega, a1, a2, if_pos (.inr a2), if_pos (.inr a2)⟩)
    have hns : ¬ (c = 32 ∨ c = 45) := by omega
    rw [if_neg hns, if_neg hns]
    by_cases a3 : 65 ≤ c ∧ c ≤ 90
    · have hk : ¬ ¬ ((65 ≤ c ∧ c ≤ 90) ∨ (48 ≤ c ∧ c ≤ 57)) := fun q => q (.inl a3)
      refine .inr (.inr (.inr (.inl ⟨by omega, a1, a2, a3.1, a3.2, ?_, if_neg hk⟩)))
      by_cases q : out.length = 10
      · rw [if_pos (.inr q), if_pos q]
      · rw [if_neg (by rintro (h | h); exact hk h; exact q h), if_neg q]
    by_cases a4 : 48 ≤ c ∧ c ≤ 57
    · have hk : ¬ ¬ ((65 ≤ c ∧ c ≤ 90) ∨ (48 ≤ c ∧ c ≤ 57)) := fun q => q (.inr a4)
      refine .inr (.inr (.inr (.inr (.inl ⟨by omega, a1, a2, by omega, a4.1, a4.2, ?_, if_neg hk⟩))))
      by_cases q : out.length = 10
      · rw [if_pos (.inr q), if_pos q]
      · rw [if_neg (by rintro (h | h); exact hk h; exact q h), if_neg q]
    have hk : ¬ ((65 ≤ c ∧ c ≤ 90) ∨ (48 ≤ c ∧ c ≤ 57)) := by omega
    rw [if_pos (.inl hk), if_pos hk]
    rcases Int.lt_or_le c 48 with b1 | b1
    · exact .inr (.inr (.inr (.inr (.inr (.inl ⟨by omega, a1, a2, by omega, b1, rfl, rfl⟩)))))
    rcases Int.lt_or_le c 65 with b2 | b2
    · exact .inr (.inr (.inr (.inr (.inr (.inr (.inl ⟨by omega, a1, a2, b2, b1, by omega, rfl, rfl⟩))))))
    · exact .inr (.inr (.inr (.inr (.inr (.inr (.inr (.inl ⟨by omega, a1, a2, b2, by omega, b1, by omega, rfl, rfl⟩)))))))
  · have hns0 : ¬ (c = 32 ∨ c = 45) := by omega
    rw [if_neg hns0]
    rcases Int.lt_or_le 122 c with h2 | h2
    · have hu : up c = c := by unfold up; rw [if_neg (by omega)]
      have hk : ¬ ((65 ≤ c ∧ c ≤ 90) ∨ (48 ≤ c ∧ c ≤ 57)) := by omega
      rw [hu, if_neg hns0, if_pos (.inl hk), if_pos hk]
      exact .inr (.inr (.inr (.inr (.inr (.inr (.inr (.inr ⟨h1, h2, by omega, by omega, by omega, by omega, by omega, by omega, rfl, rfl⟩)))))))
    · have hu : up c = c - 32 := by unfold up; rw [if_pos ⟨h1, h2⟩]
      have hns : ¬ (c - 32 = 32 ∨ c - 32 = 45) := by omega
      have hk : ¬ ¬ ((65 ≤ c - 32 ∧ c - 32 ≤ 90) ∨ (48 ≤ c - 32 ∧ c - 32 ≤ 57)) := fun q => q (.inl (by omega))
      rw [hu, if_neg hns]
      refine .inr (.inr (.inl ⟨h1, h2, by omega, by omega, by omega, by omega, by omega, by omega, ?_, if_neg hk⟩))
      by_cases q : out.length = 10
      · rw [if_pos (.inr q), if_pos q]
      · rw [if_neg (by rintro (h | h); exact hk h; exact q h), if_neg q]
theorem normGo_end {out l : List Int} {k : Nat} (h : l.length ≤ k) : normGo out (l.drop k) = if out.length < 2 then none else some out := by rw [List.drop_eq_nil_of_le h, normGo]
theorem normGoR_end {out l : List Int} {k : Nat} (h : l.length ≤ k) : normGoR out (l.drop k) = if out.length < 2 ∨ 10 < out.length then none else some out := by rw [List.drop_eq_nil_of_le h, normGoR]

/-! ### Like -/
/-- the nine pairs -/
def like1 (a b : Int) : Bool := (a == 48 && (b == 79 || b == 68 || b == 81)) || (a == 49 && b == 73) || (a == 50 && b == 90) || (a == 53 && b == 83) || (a == 56 && b == 66) || (a == 54 && b == 71) || (a == 85 && b == 86)
def like (a b : Int) : Bool := like1 a b || like1 b a
theorem like_comm (a b : Int) : like a b = like b a := by unfold like; rw [Bool.or_comm]

/-! ### Distance -/
def chg (a b : Int) : Int := if a = b then 0 else if like a b then 1 else 3
def D (A B : List Int) : Nat → Nat → Int
  | 0, j => 3 * (j : Int)
  | i + 1, 0 => 3 * ((i : Int) + 1)
  | i + 1, j + 1 => min (min (D A B i j + chg (A.getD i 0) (B.getD j 0)) (D A B i (j + 1) + 3)) (D A B (i + 1) j + 3)
def dist (A B : List Int) : Int := D A B A.length B.length
def cutS (s : ByteArray) : List Int := (codes s).take 32
def distS (s t : ByteArray) : Int := dist (cutS s) (cutS t)
theorem chg_range (a b : Int) : 0 ≤ chg a b ∧ chg a b ≤ 3 := by unfold chg; split <;> (try split) <;> omega
theorem D_range (A B : List Int) : ∀ i j : Nat, 0 ≤ D A B i j ∧ D A B i j ≤ 3 * max (i : Int) (j : Int)
  | 0, j => by rw [D]; omega
  | i + 1, 0 => by rw [D]; omega
  | i + 1, j + 1 => by
    have h1 := D_range A B i j
    have h2 := D_range A B i (j + 1)
    have h3 := D_range A B (i + 1) j
    have := chg_range (A.getD i 0) (B.getD j 0)
    rw [D]
    omega
/-- row i of the table -/
def rowL (A B : List Int) (n i : Nat) : List Int := (List.range n).map (D A B i)
/-- row i + 1 while it is filled: the places up to j -/
def rowP (A B : List Int) (n i j : Nat) : List Int := (List.range n).map fun k => if k ≤ j then D A B (i + 1) k else 0
def row0 (n k : Nat) : List Int := (List.range n).map fun j => if j < k then 3 * (j : Int) else 0
theorem rowL_len (A B : List Int) (n i : Nat) : (rowL A B n i).length = n := by simp [rowL]
theorem rowP_len (A B : List Int) (n i j : Nat) : (rowP A B n i j).length = n := by simp [rowP]
theorem row0_len (n k : Nat) : (row0 n k).length = n := by simp [row0]
theorem rowL_get (A B : List Int) {n i k : Nat} (h : k < n) : (rowL A B n i)[k]'(by rw [rowL_len]; exact h) = D A B i k := by simp [rowL]
theorem rowP_get (A B : List Int) {n i j k : Nat} (h : k < n) (hk : k ≤ j) : (rowP A B n i j)[k]'(by rw [rowP_len]; exact h) = D A B (i + 1) k := by simp [rowP, hk]
theorem row0_start (n : Nat) : List.replicate n 0 = row0 n 0 := by
  apply List.ext_getElem
  · simp [row0]
  · intro k h1 h2; simp [row0]
theorem row0_set {n k : Nat} : (row0 n k).set k (3 * (k : Int)) = row0 n (k + 1) := by
  apply List.ext_getElem
  · simp [row0]
  · intro i h1 h2
    rw [List.getElem_set]
    simp only [row0, List.getElem_map, List.getElem_range]
    by_cases e : k = i
    · subst e; simp
    · rw [if_neg e]
      by_cases q : i < k
      · rw [if_pos q, if_pos (by omega)]
      · rw [if_neg q, if_neg (by omega)]
theorem row0_end (A B : List Int) (n : Nat) : row0 n n = rowL A B n 0 := by
  apply List.ext_getElem
  · simp [row0, rowL]
  · intro i h1 h2
    have : i < n := by simpa [row0] using h1
    simp [row0, rowL, D, this]
theorem rowP_start (A B : List Int) (n i : Nat) : (List.replicate n 0).set 0 (3 * ((i : Int) + 1)) = rowP A B n i 0 := by
  apply List.ext_getElem
  · simp [rowP]
  · intro k h1 h2
    rw [List.getElem_set]
    simp only [rowP, List.getElem_map, List.getElem_range, List.getElem_replicate]
    by_cases e : 0 = k
    · subst e; simp [D]
    · rw [if_neg e, if_neg (by omega)]
theorem rowP_set (A B : List Int) {n i j : Nat} : (rowP A B n i j).set (j + 1) (D A B (i + 1) (j + 1)) = rowP A B n i (j + 1) := by
  apply List.ext_getElem
  · simp [rowP]
  · intro k h1 h2
    rw [List.getElem_set]
    simp only [rowP, List.getElem_map, List.getElem_range]
    by_cases e : j + 1 = k
    · subst e; simp
    · rw [if_neg e]
      by_cases q : k ≤ j
      · rw [if_pos q, if_pos (by omega)]
      · rw [if_neg q, if_neg (by omega)]
theorem rowP_end (A B : List Int) {n i j : Nat} (h : n ≤ j + 1) : rowP A B n i j = rowL A B n (i + 1) := by
  apply List.ext_getElem
  · simp [rowP, rowL]
  · intro k h1 h2
    have : k < n := by simpa [rowP] using h1
    simp only [rowP, rowL, List.getElem_map, List.getElem_range]
    rw [if_pos (by omega)]
theorem cutS_len (s : ByteArray) : (cutS s).length = min 32 s.size := by simp [cutS, codes_len]
theorem codes_first (s : ByteArray) : codes (s.extract 0 (min s.size 32)) = cutS s := by
  unfold codes cutS codes
  rw [ByteArray.data_extract, ← List.map_take]
  congr 1
  simp only [Array.toList_extract, List.extract_eq_take_drop, List.drop_zero, Nat.sub_zero]
  by_cases h : s.size ≤ 32
  · rw [Nat.min_eq_left h, List.take_of_length_le (show s.data.toList.length ≤ s.size from Nat.le_refl _), List.take_of_length_le (show s.data.toList.length ≤ 32 from h)]
  · rw [Nat.min_eq_right (by omega)]
theorem first_size (s : ByteArray) : (s.extract 0 (min s.size 32)).size ≤ 32 := by
  have := congrArg List.length (codes_first s)
  rw [codes_len, cutS_len] at this
  omega
end Go.Tw.Plate
/-
  Layer 10 (plate): the walks: Like, first, cut, Normal.
-/
namespace Go.Proofs.YtbjhemglecllmaaDoor
open Go.RowKit Go.Tw Go.Tw.Plate

theorem slU8 : SlT Tryd.prog 88 5 1 1 := SlT.of (z := .int .u8 0) Tryd.underlying88 (by kernel_rfl) rfl (by decide)
theorem flatU8 : tU8.Flat := fun h => h

theorem ret_norm {a : ByteArray} {b : Int} {o : ByteArray × Int} (h : o = (a, b)) : Ending.returned (.tuple #[.string a, .int .i64 b]) = .returned (.tuple #[.string o.1, .int .i64 o.2]) := by rw [h]
theorem conv_out {w : World} {B : Nat} {v : Value} {out : List Int} (h : OwnSl tU8 5 B w v out) (h0 : 0 < out.length) : (convert 88 9 v).run Tryd.prog w = .ok (.string (strOfNums out)) w := by
  obtain ⟨ao, cap, b, off, rfl, h1, h2, h3⟩ := h.sl.openS
  have := run_convert_bytes_arg (P := Tryd.prog) w 88 5 Tryd.underlying88 Tryd.underlying5 b off out.length cap out rfl (fun i hi => by
    obtain ⟨_, _, _, cs, g1, rfl, _⟩ := h3 w (SameOn.refl _ _) i hi
    have := g1 0 (by decide)
    simp [tU8] at this
    rw [this, List.getD_eq_getElem?_getD, List.getElem?_eq_getElem hi]; rfl) 9 Tryd.underlying9
  obtain ⟨rfl, _⟩ := h3 w (SameOn.refl _ _) 0 h0
  exact this

theorem ten (n : Nat) : (Hid (n = 10) ∧ ((n : Int) == 10) = true) ∨ (Hid (¬ n = 10) ∧ ((n : Int) == 10) = false) := by
  by_cases h : n = 10
  · exact .inl ⟨Lib.hid h, by simp; omega⟩
  · exact .inr ⟨Lib.hid h, by simp; omega⟩
set_option maxRecDepth 100000 in
set_option maxHeartbeats 2000000 in
theorem Normal_any (s : ByteArray) (w : World) (hs : s.size ≤ 1000000) :
    Calls Tryd.prog 61 #[.string s] w fun e w' => e = .returned (.tuple #[.string (normS (normGo [] (codes s))).1, .int .i64 (normS (normGo [] (codes s))).2]) ∧ Below w.heap.size w w' := by
  go_enter Tryd.func61, Tryd.ntmps61
  go_wp2
  go_loopg [9, 4] s.size (fun g i v wr => ∃ (k : Nat) (out : List Int), k + g = s.size ∧ i = .int .i64 k ∧ normGo [] (codes s) = normGo out ((codes s).drop k) ∧ out.length ≤ 10 ∧ (∀ x ∈ out, isByte x) ∧ OwnSl tU8 5 w.heap.size wr v out ∧ Below w.heap.size w wr)
  case atStart => exact ⟨0, [], by omega, rfl, rfl, by simp, by simp, OwnSl.nil _ _ _ _, Below.refl _ _⟩
  case round =>
    obtain ⟨k, out, hk, rfl, he, ho, hby, hown, hb1⟩ := hrel
    have HE := Lib.hid he; clear he
    have HB := Lib.hid hby; clear hby
    have HO := Lib.hid hown
    obtain ⟨ao, cap, rfl, ho1, ho2⟩ := hown.form
    unfold maxLen at ho2
    have HC := Lib.hid (conv_out hown)
    clear hown
    by_cases hlt : k < s.size
    · have k0 : (0 : Int) ≤ (k : Int) := by omega
      have k1 : (k : Int) < (s.size : Int) := by omega
      have hkl : k < (codes s).length := by rw [codes_len]; exact hlt
      have hsb := hb1.size
      have b2 : 0 ≤ (s[k].toNat : Int) := by omega
      have b3 : (s[k].toNat : Int) ≤ 255 := by have := s[k].toNat_lt; omega
      rcases norm_ways (out := out) hkl (codes_get s hlt) with ⟨a1, a2, N, NR⟩ | ⟨a1, a2, a3, N, NR⟩ | ⟨a1, a2, a3, a4, a5, a6, a7, a8, N, NR⟩ | ⟨a1, a2, a3, a4, a5, N, NR⟩ | ⟨a1, a2, a3, a4, a5, a6, N, NR⟩ | ⟨a1, a2, a3, a4, a5, N, NR⟩ | ⟨a1, a2, a3, a4, a5, a6, N, NR⟩ | ⟨a1, a2, a3, a4, a5, a6, a7, N, NR⟩ | ⟨a1, a2, a3, a4, a5, a6, a7, a8, N, NR⟩
      all_goals
        have HN := Lib.hid N
        have HNR := Lib.hid NR
        clear N NR
      all_goals
        skip
      all_goals
        rcases ten out.length with ⟨hq, hq'⟩ | ⟨hq, hq'⟩
      all_goals
        go_wp2_with (
          at_builtin
          refine wpList_append_one (.tmp 48) (.tmp 50) rfl 88 rfl slU8 rfl HO.out rfl (S := fun _ => False) ⟨rfl, by omega, by omega⟩ (fun _ h => h.elim) (by omega) (by unfold maxLen; omega) hsb ?_
          intro v' w2 ho2 hg2 hb2)
      all_goals first
        | (go_ret2
           exact ⟨ret_norm (by rw [HE.out, HN.out]; first | rfl | (rw [if_pos hq.out]; rfl)), hb1⟩)
        | (go_roundg (s.size - (k + 1))
           case measure => omega
           case rel => exact ⟨k + 1, out, by omega, by go_num, HE.out.trans HN.out, by omega, HB.out, HO.out, hb1⟩)
        | (go_roundg (s.size - (k + 1))
           case measure => omega
           case rel =>
             refine ⟨k + 1, out ++ [_], by omega, by go_num, HE.out.trans (HN.out.trans (by first | exact if_neg hq.out | rfl)), by have := hq.out; simp; omega, fun x hx => ?_, ho2, hb1.trans hb2⟩
             rcases List.mem_append.1 hx with hx | hx
             · exact HB.out x hx
             · simp at hx; subst hx; unfold isByte; omega)
    · by_cases h2 : out.length < 2
      · have h2' : (out.length : Int) < 2 := by omega
        go_wp2
        go_ret2
        exact ⟨ret_norm (by rw [HE.out, normGo_end (by rw [codes_len]; omega), if_pos h2]; rfl), hb1⟩
      · have h2' : ¬ (out.length : Int) < 2 := by omega
        have hcv := HC.out (by omega)
        go_wp2
        go_ret2
        exact ⟨ret_norm (by rw [HE.out, normGo_end (by rw [codes_len]; omega), if_neg h2]; rfl), hb1⟩
end Go.Proofs.YtbjhemglecllmaaDoor
/-
  Layer 10 (plate): the walk of the reference's Normal.
-/
namespace Go.Proofs.YtbjhemglecllmaaDoor
open Go.RowKit Go.Tw Go.Tw.Plate
set_option maxRecDepth 100000 in
set_option maxHeartbeats 2000000 in
theorem NormalR_any (s : ByteArray) (w : World) (hs : s.size ≤ 1000000) :
    Calls Tryd.prog 41 #[.string s] w fun e w' => e = .returned (.tuple #[.string (normS (normGoR [] (codes s))).1, .int .i64 (normS (normGoR [] (codes s))).2]) ∧ Below w.heap.size w w' := by
  go_enter Tryd.func41, Tryd.ntmps41
  go_wp2
  go_loopg [5, 4] s.size (fun g i v wr => ∃ (k : Nat) (out : List Int), k + g = s.size ∧ i = .int .i64 k ∧ normGoR [] (codes s) = normGoR out ((codes s).drop k) ∧ out.length ≤ k ∧ (∀ x ∈ out, isByte x) ∧ OwnSl tU8 5 w.heap.size wr v out ∧ Below w.heap.size w wr)
  case atStart => exact ⟨0, [], by omega, rfl, rfl, by simp, by simp, OwnSl.nil _ _ _ _, Below.refl _ _⟩
  case round =>
    obtain ⟨k, out, hk, rfl, he, ho, hby, hown, hb1⟩ := hrel
    have HE := Lib.hid he; clear he
    have HB := Lib.hid hby; clear hby
    have HO := Lib.hid hown
    obtain ⟨ao, cap, rfl, ho1, ho2⟩ := hown.form
    unfold maxLen at ho2
    have HC := Lib.hid (conv_out hown)
    clear hown
    by_cases hlt : k < s.size
    · have k0 : (0 : Int) ≤ (k : Int) := by omega
      have k1 : (k : Int) < (s.size : Int) := by omega
      have hkl : k < (codes s).length := by rw [codes_len]; exact hlt
      have hsb := hb1.size
      have b2 : 0 ≤ (s[k].toNat : Int) := by omega
      have b3 : (s[k].toNat : Int) ≤ 255 := by have := s[k].toNat_lt; omega
      rcases norm_ways (out := out) hkl (codes_get s hlt) with ⟨a1, a2, N, NR⟩ | ⟨a1, a2, a3, N, NR⟩ | ⟨a1, a2, a3, a4, a5, a6, a7, a8, N, NR⟩ | ⟨a1, a2, a3, a4, a5, N, NR⟩ | ⟨a1, a2, a3, a4, a5, a6, N, NR⟩ | ⟨a1, a2, a3, a4, a5, N, NR⟩ | ⟨a1, a2, a3, a4, a5, a6, N, NR⟩ | ⟨a1, a2, a3, a4, a5, a6, a7, N, NR⟩ | ⟨a1, a2, a3, a4, a5, a6, a7, a8, N, NR⟩
      all_goals
        have HN := Lib.hid N
        have HNR := Lib.hid NR
        clear N NR
      all_goals
        first
          | (have z1 : decide ((s[k].toNat : Int) ≤ 57) = false := by (simp; omega))
          | skip
        first
          | (have z2 : decide ((s[k].toNat : Int) ≤ 90) = false := by (simp; omega))
          | skip
      all_goals
        rcases ten out.length with ⟨hq, hq'⟩ | ⟨hq, hq'⟩
      all_goals
        go_wp2_with (
          at_builtin
          refine wpList_append_one (.tmp 45) (.tmp 47) rfl 88 rfl slU8 rfl HO.out rfl (S := fun _ => False) ⟨rfl, by omega, by omega⟩ (fun _ h => h.elim) (by omega) (by unfold maxLen; omega) hsb ?_
          intro v' w2 ho2 hg2 hb2)
      all_goals first
        | (go_ret2
           exact ⟨ret_norm (by rw [HE.out, HNR.out]; first | rfl | (rw [if_pos hq.out]; rfl)), hb1⟩)
        | (go_roundg (s.size - (k + 1))
           case measure => omega
           case rel => exact ⟨k + 1, out, by omega, by go_num, HE.out.trans HNR.out, by omega, HB.out, HO.out, hb1⟩)
        | (go_roundg (s.size - (k + 1))
           case measure => omega
           case rel =>
             refine ⟨k + 1, out ++ [_], by omega, by go_num, HE.out.trans (HNR.out.trans (by first | exact if_neg hq.out | rfl)), by have := hq.out; simp; omega, fun x hx => ?_, ho2, hb1.trans hb2⟩
             rcases List.mem_append.1 hx with hx | hx
             · exact HB.out x hx
             · simp at hx; subst hx; unfold isByte; omega)
    · by_cases h2 : out.length < 2
      · have h2' : (out.length : Int) < 2 := by omega
        go_wp2
        all_goals
          go_ret2
          exact ⟨ret_norm (by rw [HE.out, normGoR_end (by rw [codes_len]; omega), if_pos (.inl h2)]; rfl), hb1⟩
      · have h2' : ¬ (out.length : Int) < 2 := by omega
        by_cases h3 : 10 < out.length
        · have h3' : (10 : Int) < (out.length : Int) := by omega
          go_wp2
          all_goals
            go_ret2
            exact ⟨ret_norm (by rw [HE.out, normGoR_end (by rw [codes_len]; omega), if_pos (.inr h3)]; rfl), hb1⟩
        · have h3' : ¬ (10 : Int) < (out.length : Int) := by omega
          have hcv := HC.out (by omega)
          go_wp2
          all_goals
            go_ret2
            exact ⟨ret_norm (by rw [HE.out, normGoR_end (by rw [codes_len]; omega), if_neg (by omega)]; rfl), hb1⟩
end Go.Proofs.YtbjhemglecllmaaDoor
/-
  Layer 17 (passage): the laws' one, few.
-/
namespace Go.Tw.Ps
/-- what one asks -/
structure OneP (x : Pas) : Prop where
  id : x.id.size ≤ 80
  pt : x.pt.size ≤ 40
  tag : x.tag.size ≤ 40
  plt : x.plt.size ≤ 40
  src : x.src.length ≤ 30
  dev : ∀ s ∈ x.src, s.dev.size ≤ 40
end Go.Tw.Ps
namespace Go.Proofs.YtbjhemglecllmaaDoor
open Go.RowKit Go.Tw Go.Tw.Ord Go.Tw.Ps Go.Sort
def OneRes (x : Pas) (e : Ending) : Prop := ∃ c, e = .returned (.bool c) ∧ (c = true → OneP x)
def FewRes (l : List Pas) (e : Ending) : Prop := ∃ c, e = .returned (.bool c) ∧ (c = true → l.length ≤ 40 ∧ ∀ x ∈ l, OneP x)
set_option maxRecDepth 100000 in
set_option maxHeartbeats 1000000 in
theorem one_any (x : Pas) (vx : Value) (w : World) (h : SlIs tSrc (· < w.heap.size) w vx x.src) (_hx : PasOk x) : Calls Tryd.prog 11 #[.agg (pCells x vx).toArray] w fun e w' => OneRes x e ∧ GrB w w' := by
  obtain ⟨B, hB⟩ : ∃ B, (pCells x vx).toArray = B := ⟨_, rfl⟩
  have n0 : PBox (w.alloc (.cells B 24)) w.heap.size B := heap_alloc_new _ _
  have hb0 : GrB w (w.alloc (.cells B 24)) := (GrB.refl w).alloc _
  obtain ⟨ao, cp, b, o, rfl, q1, q2, ho⟩ := src_row (h.step hb0.below)
  unfold maxLen at q2
  have b0 := n0.cell 0 (v := .string x.id) (by rw [← hB]; rfl)
  have b1 := n0.cell 1 (v := .string x.pt) (by rw [← hB]; rfl)
  have b3 := n0.cell 3 (v := .string x.tag) (by rw [← hB]; rfl)
  have b4 := n0.cell 4 (v := .string x.plt) (by rw [← hB]; rfl)
  have b7 := n0.cell 7 (v := .slice ao x.src.length cp) (by rw [← hB]; rfl)
  have HO := Lib.hid ho
  have HB0 := Lib.hid hb0
  rw [hB]
  clear hB n0 ho hb0 h _hx
  go_enter Tryd.func11, Tryd.ntmps11
  go_wp2
  generalize w.alloc (.cells B 24) = w0 at HO HB0 b0 b1 b3 b4 b7 ⊢
  generalize w.heap.size = gb at b0 b1 b3 b4 b7 ⊢
  go_loopg [3] x.src.length (fun gx i wr => ∃ k : Nat, k + gx = x.src.length ∧ i = .int .i64 k ∧ Hid (∀ s ∈ x.src.take k, s.dev.size ≤ 40) ∧ w0 = wr)
  case atStart => exact ⟨0, by omega, rfl, Lib.hid (by simp), rfl⟩
  case round =>
    obtain ⟨k, hk, rfl, HI, rfl⟩ := hrel
    by_cases hlt : k < x.src.length
    · obtain ⟨rfl, -, -, -, c0, -⟩ := HO.out w0 (SameOn.refl _ _) k hlt
      have HTK := Lib.hid (show x.src.take (k + 1) = x.src.take k ++ [x.src[k]] from List.take_succ_eq_append_getElem hlt)
      generalize x.src[k] = y at HTK c0
      have k0 : (0 : Int) ≤ (k : Int) := by omega
      have k1 : (k : Int) < (x.src.length : Int) := by omega
      by_cases d : y.dev.size ≤ 40
      · have f : ¬ (40 : Int) < (y.dev.size : Int) := by omega
        have HD := Lib.hid d
        clear d
        go_wp2
        go_roundg (x.src.length - (k + 1))
        case measure => omega
        case rel => exact ⟨k + 1, by omega, by go_num, Lib.hid (fun s hs => by
          rw [HTK.out] at hs
          rcases List.mem_append.1 hs with hs | hs
          · exact HI.out s hs
          · simp at hs; subst hs; exact HD.out), rfl⟩
      · have f : (40 : Int) < (y.dev.size : Int) := by omega
        clear d
        go_wp2
        go_ret
        exact ⟨⟨false, rfl, fun h => by simp at h⟩, HB0.out⟩
    · obtain rfl : k = x.src.length := by omega
      have hkl : ¬ (x.src.length : Int) < (x.src.length : Int) := by omega
      rw [List.take_length] at HI
      clear hlt hk
      by_cases d0 : x.id.size ≤ 80
      · by_cases d1 : x.pt.size ≤ 40
        · by_cases d3 : x.tag.size ≤ 40
          · by_cases d4 : x.plt.size ≤ 40
            · have f0 : (x.id.size : Int) ≤ 80 := by omega
              have f1 : (x.pt.size : Int) ≤ 40 := by omega
              have f3 : (x.tag.size : Int) ≤ 40 := by omega
              have f4 : (x.plt.size : Int) ≤ 40 := by omega
              have HD := Lib.hid (show x.src.length ≤ 30 → OneP x from fun h => ⟨d0, d1, d3, d4, h, HI.out⟩)
              clear d0 d1 d3 d4
              go_wp2
              go_ret
              exact ⟨⟨decide ((x.src.length : Int) ≤ 30), rfl, fun h => HD.out (by simp at h; omega)⟩, HB0.out⟩
            · have f0 : (x.id.size : Int) ≤ 80 := by omega
              have f1 : (x.pt.size : Int) ≤ 40 := by omega
              have f3 : (x.tag.size : Int) ≤ 40 := by omega
              have f4 : ¬ (x.plt.size : Int) ≤ 40 := by omega
              clear d0 d1 d3 d4
              go_wp2
              go_ret
              exact ⟨⟨false, rfl, fun h => by simp at h⟩, HB0.out⟩
          · have f0 : (x.id.size : Int) ≤ 80 := by omega
            have f1 : (x.pt.size : Int) ≤ 40 := by omega
            have f3 : ¬ (x.tag.size : Int) ≤ 40 := by omega
            clear d0 d1 d3
            go_wp2
            go_ret
            exact ⟨⟨false, rfl, fun h => by simp at h⟩, HB0.out⟩
        · have f0 : (x.id.size : Int) ≤ 80 := by omega
          have f1 : ¬ (x.pt.size : Int) ≤ 40 := by omega
          clear d0 d1
          go_wp2
          go_ret
          exact ⟨⟨false, rfl, fun h => by simp at h⟩, HB0.out⟩
      · have f0 : ¬ (x.id.size : Int) ≤ 80 := by omega
        clear d0
        go_wp2
        go_ret
        exact ⟨⟨false, rfl, fun h => by simp at h⟩, HB0.out⟩
set_option maxRecDepth 100000 in
set_option maxHeartbeats 1000000 in
theorem few_any (l : List Pas) (v : Value) (w : World) (h : SlIs (tPas eS) (· < w.heap.size) w v l) : Calls Tryd.prog 19 #[v] w fun e w' => FewRes l e ∧ GrB w w' := by
  obtain ⟨ao, cp, g, o, rfl, q1, q2, ho⟩ := pas_row h
  unfold maxLen at q2
  have HO := Lib.hid ho
  clear h ho
  go_enter Tryd.func19, Tryd.ntmps19
  go_wp2
  go_loopg [3] l.length (fun gx i wo => ∃ k : Nat, k + gx = l.length ∧ i = .int .i64 k ∧ Hid (∀ x ∈ l.take k, OneP x) ∧ GrB w wo)
  case atStart => exact ⟨0, by omega, rfl, Lib.hid (by simp), GrB.refl _⟩
  case round =>
    obtain ⟨wo, rfl⟩ : ∃ wo : World, wo = wr := ⟨_, rfl⟩
    obtain ⟨k, hk, rfl, HI, hb⟩ := hrel
    have HB := Lib.hid hb
    by_cases hlt : k < l.length
    · obtain ⟨rfl, -, hbk, hok, ax, nx, cx, hsx, hc⟩ := HO.out wo (.of_below hb.below) k hlt
      have HTK := Lib.hid (show l.take (k + 1) = l.take k ++ [l[k]] from List.take_succ_eq_append_getElem hlt)
      generalize l[k] = x at HTK hc hok hsx
      have HON := Lib.hid (one_any x _ wo (hsx.keep (fun k hk => Nat.lt_of_lt_of_le hk hb.below.size) (fun _ _ => rfl)) hok)
      obtain ⟨A, hA⟩ : ∃ A, (pCells x (.slice ax nx cx)).toArray = A := ⟨_, rfl⟩
      rw [hA] at HON
      have ld0 : Sem.run Tryd.prog (loadCellsFrom ⟨g, o + k * 8, none⟩ 0 8 #[]) wo = .ok A wo := by
        rw [← hA]
        exact load_pas _ fun jj hjj => hc jj hjj
      have k0 : (0 : Int) ≤ (k : Int) := by omega
      have k1 : (k : Int) < (l.length : Int) := by omega
      clear hA hc hok hb hbk hsx
      go_upto_region 4 with (fail)
      go_wp2_with (first
        | (refine wpList_loadA _ rfl 24 rfl Tryd.isAgg24 Tryd.sizeOf24 rfl (by with_reducible assumption) ?_)
        | (go_at_call 11
           with_reducible refine HON.out.mono ?_
           rintro e w1 ⟨⟨c, rfl, hc1⟩, hg1⟩
           have HC1 := Lib.hid hc1
           have HG1 := Lib.hid hg1
           clear hc1 hg1 ld0
           cases c))
      · go_ret
        exact ⟨⟨false, rfl, fun h => by simp at h⟩, HB.out.trans HG1.out⟩
      · go_roundg (l.length - (k + 1))
        case measure => omega
        case rel => exact ⟨k + 1, by omega, by go_num, Lib.hid (fun y hy => by
          rw [HTK.out] at hy
          rcases List.mem_append.1 hy with hy | hy
          · exact HI.out y hy
          · simp at hy; subst hy; exact HC1.out (by simp)), HB.out.trans HG1.out⟩
    · obtain rfl : k = l.length := by omega
      have hkl : ¬ (l.length : Int) < (l.length : Int) := by omega
      rw [List.take_length] at HI
      clear hlt hk hb
      go_wp2
      go_ret
      exact ⟨⟨decide ((l.length : Int) ≤ 40), rfl, fun h => ⟨by simp at h; omega, HI.out⟩⟩, HB.out⟩
end Go.Proofs.YtbjhemglecllmaaDoor
/-
  Layer 17 (passage): text.Format, ID and the reference's ID.
-/
namespace Go.Tw.Ps
open Go.RowKit Go.Tw
theorem nDigits_le : ∀ (k u : Nat), u < 10 ^ (k + 1) → Lib.nDigits u ≤ k + 1
  | 0, u, h => by rw [Lib.nDigits_small (by simpa using h)]; exact Nat.le_refl _
  | k + 1, u, h => by
    by_cases q : u < 10
    · rw [Lib.nDigits_small q]; omega
    · rw [Lib.nDigits_big q]
      rw [Nat.pow_succ] at h
      have := nDigits_le k (u / 10) (by omega)
      omega
theorem fmt_size {n : Int} (h : i64ok n) : (fmtS n).size ≤ 20 := by
  unfold i64ok at h
  have hd : ∀ u : Nat, u < 10 ^ 19 → (Lib.decDigits u).length ≤ 19 := fun u hu => by
    rw [Lib.decDigits_length]
    exact nDigits_le 18 u hu
  show (Lib.itoa n).length ≤ 20
  unfold Lib.itoa
  split
  · rw [List.length_cons]
    have := hd n.natAbs (by omega)
    omega
  · have := hd n.toNat (by omega)
    omega
/-- the identifier of a passage -/
def idC (x : Pas) : ByteArray := match x.src with
  | [] => es
  | s :: _ => s.dev ++ ofB [46] ++ fmtS s.seq
end Go.Tw.Ps
namespace Go.Proofs.YtbjhemglecllmaaDoor
open Go.RowKit Go.Tw Go.Tw.Ord Go.Tw.Ps Go.Sort
/-- text.Format yields the numeral, wherever it is called from -/
def FmtOk (n : Int) (w : World) : Prop := ∀ w', Below w.heap.size w w' → Calls Tryd.prog 43 #[.int .i64 n] w' fun e w'' => e = .returned (.string (fmtS n)) ∧ GrB w' w''
theorem FmtOk.step {n : Int} {w w' : World} (h : FmtOk n w) (hb : Below w.heap.size w w') : FmtOk n w' := fun w'' hw => h w'' (bl_trans hb hw)
set_option maxHeartbeats 400000 in
theorem fmt_of (n : Int) (w : World) (h : Calls Tryd.prog 70 #[.int .i64 n] w fun e w' => e = .returned (.string (fmtS n)) ∧ GrB w w') : Calls Tryd.prog 43 #[.int .i64 n] w fun e w' => e = .returned (.string (fmtS n)) ∧ GrB w w' := by
  have H := Lib.hid h
  clear h
  go_enter Tryd.func43, Tryd.ntmps43
  go_wp2_with (go_at_call 70
               with_reducible refine H.out.mono ?_
               rintro e w1 ⟨rfl, hg⟩
               have HG := Lib.hid hg
               clear hg)
  go_ret
  exact ⟨rfl, HG.out⟩
theorem fmt_small (n : Nat) (hn : n < 100) (w : World) : FmtOk n w := fun w' _ => fmt_of n w' ((Tryd.strconv_Itoa_small n hn w').mono fun e w'' h => by
  obtain ⟨h1, rfl⟩ := h
  refine ⟨?_, GrB.refl _⟩
  rw [h1]
  unfold fmtS Lib.itoa
  rw [if_neg (by omega)]
  rfl)
theorem fmt_tab (n : Int) (hn : i64ok n) (w : World) (htab : Lib.TabIs Tryd.prog w "internal/strconv.uint64pow10" .u64 Lib.pow10Tab) {g : Nat} (hg : Tryd.prog.globalNamed "internal/strconv.uint64pow10" = some g) : FmtOk n w := fun w' hw => fmt_of n w' ((Tryd.strconv_Itoa n hn.1 hn.2 w' (Go.Joins.tab_stays hg htab hw (Nat.le_refl _))).mono fun _ _ h => ⟨h.1, h.2⟩)
theorem idC_nil {x : Pas} (h : x.src = []) : idC x = es := by unfold idC; rw [h]
theorem idC_cons {x : Pas} {s : Src} (h : x.src[0]? = some s) : idC x = s.dev ++ ⟨#[46]⟩ ++ fmtS s.seq := by
  unfold idC
  cases e : x.src with
  | nil => rw [e] at h; cases h
  | cons a l =>
    rw [e] at h
    simp at h
    subst h
    rfl
set_option maxRecDepth 100000 in
set_option maxHeartbeats 2000000 in
theorem ID_any (x : Pas) (vx : Value) (w : World) (h : SlIs tSrc (· < w.heap.size) w vx x.src) (hd : ∀ s ∈ x.src, s.dev.size ≤ 1000) (hs : ∀ s ∈ x.src, i64ok s.seq) (hf : ∀ s ∈ x.src, FmtOk s.seq w) :
    Calls Tryd.prog 15 #[.agg (pCells x vx).toArray] w fun e w' => e = .returned (.string (idC x)) ∧ GrB w w' := by
  obtain ⟨B, hB⟩ : ∃ B, (pCells x vx).toArray = B := ⟨_, rfl⟩
  have n0 : PBox (w.alloc (.cells B 24)) w.heap.size B := heap_alloc_new _ _
  have hb0 : GrB w (w.alloc (.cells B 24)) := (GrB.refl w).alloc _
  obtain ⟨ao, cp, b, o, rfl, q1, q2, ho⟩ := src_row (h.step hb0.below)
  unfold maxLen at q2
  have HB0 := Lib.hid hb0
  obtain ⟨n, hn⟩ : ∃ n, x.src.length = n := ⟨_, rfl⟩
  have b7 := n0.cell 7 (v := .slice ao n cp) (by rw [← hB, ← hn]; rfl)
  rw [hB]
  by_cases hz : n = 0
  · have hnil : x.src = [] := List.eq_nil_of_length_eq_zero (by omega)
    have HE := Lib.hid (idC_nil hnil)
    have hz' : ((n : Int) == 0) = true := by rw [hz]; rfl
    clear hB n0 ho hb0 h hd hs hf hz hnil hn q1
    go_enter Tryd.func15, Tryd.ntmps15
    go_wp2
    go_ret
    exact ⟨ret_sv HE.out, HB0.out⟩
  · obtain ⟨rfl, -, hbk, -, c0, c1⟩ := ho _ (SameOn.refl _ _) 0 (by omega)
    have hz' : ((n : Int) == 0) = false := by rw [beq_eq_false_iff_ne]; omega
    have hz2 : 0 < n := by omega
    have hx0 : x.src[0]? = some x.src[0] := List.getElem?_eq_getElem _
    have HE := Lib.hid (idC_cons hx0)
    have hm := List.getElem_mem (l := x.src) (n := 0) (by omega)
    have hds := hd _ hm
    have hfs := fmt_size (hs _ hm)
    have HF := Lib.hid (hf _ hm)
    have HSO := Lib.hid (hs _ hm)
    generalize x.src[0] = s at HE hds hfs HF HSO c0 c1 hx0
    have HF2 := Lib.hid (show ∀ n os, Calls Tryd.prog 43 #[.int .i64 s.seq] (grow ((w.alloc (.cells B 24)).drewN n) os) fun e w' => e = .returned (.string (fmtS s.seq)) ∧ ∃ q os', w' = grow ((grow ((w.alloc (.cells B 24)).drewN n) os).drewN q) os' from fun n os => by
      first
      | exact (HF.out _ (bl_trans hb0.below (GrB.below ⟨n, os, rfl⟩))).mono fun e w' h => ⟨h.1, h.2⟩
      | exact (FormatR_any s.seq HSO.out _).mono fun e w' h => ⟨h.1, gr_same h.2.symm⟩)
    rw [Nat.zero_mul, Nat.add_zero] at c0 c1
    clear hB hb0 h hd hs hf ho q1 hx0 hm hn hz HF
    go_enter Tryd.func15, Tryd.ntmps15
    go_upto_region 3 with (fail)
    generalize w.alloc (.cells B 24) = w0 at n0 HB0 HF2 c0 c1 hbk b7 ⊢
    generalize w.heap.size = gb at n0 b7 ⊢
    generalize fmtS s.seq = fs at HE HF2 hfs
    have hgb : gb < w0.heap.size := lt_of_heap (show w0.heap[gb]? = some (.cells B 24 (0, 0)) from n0)
    have d7 := fun n os => cell_grown hgb b7 n os
    have d0 := fun n os => cell_grown hbk c0 n os
    have d1 := fun n os => cell_grown hbk c1 n os
    clear c0 c1 b7 n0 hgb hbk
    refine wp_region_quiet_grown (by kernel_rfl) (by kernel_rfl) ?_
    have hc1 : ¬ 9223372036854775807 < s.dev.size + 1 := by omega
    have hc2 : ¬ 9223372036854775807 < s.dev.size + 1 + fs.size := by omega
    (repeat (quiet_step ((go_at_call 43; with_reducible exact Calls.grown_of (HF2.out _ _)))))
    refine wpQuiet_nil ?_
    intro _ hw'
    obtain ⟨⟨nq, osq⟩, hw''⟩ := hw'
    subst hw''
    have HGQ := Lib.hid (show GrB w0 (grow (w0.drewN nq) osq) from ⟨nq, osq, rfl⟩)
    clear d7 d0 d1 HF2
    generalize grow (w0.drewN nq) osq = wq at HGQ ⊢
    go_wp2
    go_ret
    exact ⟨ret_sv HE.out, HB0.out.trans HGQ.out⟩
set_option maxRecDepth 100000 in
set_option maxHeartbeats 2000000 in
theorem IDR_any (x : Pas) (vx : Value) (w : World) (h : SlIs tSrc (· < w.heap.size) w vx x.src) (hd : ∀ s ∈ x.src, s.dev.size ≤ 1000) (hs : ∀ s ∈ x.src, i64ok s.seq) (hf : ∀ s ∈ x.src, FmtOk s.seq w) :
    Calls Tryd.prog 16 #[.agg (pCells x vx).toArray] w fun e w' => e = .returned (.string (idC x)) ∧ GrB w w' := by
  obtain ⟨B, hB⟩ : ∃ B, (pCells x vx).toArray = B := ⟨_, rfl⟩
  have n0 : PBox (w.alloc (.cells B 24)) w.heap.size B := heap_alloc_new _ _
  have hb0 : GrB w (w.alloc (.cells B 24)) := (GrB.refl w).alloc _
  obtain ⟨ao, cp, b, o, rfl, q1, q2, ho⟩ := src_row (h.step hb0.below)
  unfold maxLen at q2
  have HB0 := Lib.hid hb0
  obtain ⟨n, hn⟩ : ∃ n, x.src.length = n := ⟨_, rfl⟩
  have b7 := n0.cell 7 (v := .slice ao n cp) (by rw [← hB, ← hn]; rfl)
  rw [hB]
  by_cases hz : n = 0
  · have hnil : x.src = [] := List.eq_nil_of_length_eq_zero (by omega)
    have HE := Lib.hid (idC_nil hnil)
    have hz' : ((n : Int) == 0) = true := by rw [hz]; rfl
    clear hB n0 ho hb0 h hd hs hf hz hnil hn q1
    go_enter Tryd.func16, Tryd.ntmps16
    go_wp2
    go_ret
    exact ⟨ret_sv HE.out, HB0.out⟩
  · obtain ⟨rfl, -, hbk, -, c0, c1⟩ := ho _ (SameOn.refl _ _) 0 (by omega)
    have hz' : ((n : Int) == 0) = false := by rw [beq_eq_false_iff_ne]; omega
    have hz2 : 0 < n := by omega
    have hx0 : x.src[0]? = some x.src[0] := List.getElem?_eq_getElem _
    have HE := Lib.hid (idC_cons hx0)
    have hm := List.getElem_mem (l := x.src) (n := 0) (by omega)
    have hds := hd _ hm
    have hfs := fmt_size (hs _ hm)
    have HF := Lib.hid (hf _ hm)
    have HSO := Lib.hid (hs _ hm)
    generalize x.src[0] = s at HE hds hfs HF HSO c0 c1 hx0
    have HF2 := Lib.hid (show ∀ n os, Calls Tryd.prog 44 #[.int .i64 s.seq] (grow ((w.alloc (.cells B 24)).drewN n) os) fun e w' => e = .returned (.string (fmtS s.seq)) ∧ ∃ q os', w' = grow ((grow ((w.alloc (.cells B 24)).drewN n) os).drewN q) os' from fun n os => by
      first
      | exact (HF.out _ (bl_trans hb0.below (GrB.below ⟨n, os, rfl⟩))).mono fun e w' h => ⟨h.1, h.2⟩
      | exact (FormatR_any s.seq HSO.out _).mono fun e w' h => ⟨h.1, gr_same h.2.symm⟩)
    rw [Nat.zero_mul, Nat.add_zero] at c0 c1
    clear hB hb0 h hd hs hf ho q1 hx0 hm hn hz HF
    go_enter Tryd.func16, Tryd.ntmps16
    go_upto_region 3 with (fail)
    generalize w.alloc (.cells B 24) = w0 at n0 HB0 HF2 c0 c1 hbk b7 ⊢
    generalize w.heap.size = gb at n0 b7 ⊢
    generalize fmtS s.seq = fs at HE HF2 hfs
    have hgb : gb < w0.heap.size := lt_of_heap (show w0.heap[gb]? = some (.cells B 24 (0, 0)) from n0)
    have d7 := fun n os => cell_grown hgb b7 n os
    have d0 := fun n os => cell_grown hbk c0 n os
    have d1 := fun n os => cell_grown hbk c1 n os
    clear c0 c1 b7 n0 hgb hbk
    refine wp_region_quiet_grown (by kernel_rfl) (by kernel_rfl) ?_
    have hc1 : ¬ 9223372036854775807 < s.dev.size + 1 := by omega
    have hc2 : ¬ 9223372036854775807 < s.dev.size + 1 + fs.size := by omega
    (repeat (quiet_step ((go_at_call 44; with_reducible exact Calls.grown_of (HF2.out _ _)))))
    refine wpQuiet_nil ?_
    intro _ hw'
    obtain ⟨⟨nq, osq⟩, hw''⟩ := hw'
    subst hw''
    have HGQ := Lib.hid (show GrB w0 (grow (w0.drewN nq) osq) from ⟨nq, osq, rfl⟩)
    clear d7 d0 d1 HF2
    generalize grow (w0.drewN nq) osq = wq at HGQ ⊢
    go_wp2
    go_ret
    exact ⟨ret_sv HE.out, HB0.out.trans HGQ.out⟩
end Go.Proofs.YtbjhemglecllmaaDoor
/-
  Layer 17 (passage): identified; what Check answers.
-/
namespace Go.Tw.Ps
open Go.RowKit Go.Tw Go.Sort Go.Tw.Ord Go.Tw.Plate
/-- the normal form of a plate, and the error -/
def nrm (s : ByteArray) : ByteArray × Int := normS (normGo [] (codes s))
def pltBad (x : Pas) : Prop := x.plt ≠ es ∧ ((nrm x.plt).2 ≠ 0 ∨ (nrm x.plt).1 ≠ x.plt)
open Classical in
noncomputable def identC (x : Pas) : Int :=
  if x.tag = es ∧ x.plt = es then 1 else if x.tag ≠ es ∧ tagE 18 x.tag ≠ 0 then tagE 18 x.tag else if pltBad x then 19 else 0
theorem ident1 {x : Pas} (h1 : x.tag = es) (h2 : x.plt = es) : identC x = 1 := by unfold identC; rw [if_pos ⟨h1, h2⟩]
theorem ident2 {x : Pas} (h1 : x.tag ≠ es) (h2 : tagE 18 x.tag ≠ 0) : identC x = tagE 18 x.tag := by
  unfold identC; rw [if_neg (fun q => h1 q.1), if_pos ⟨h1, h2⟩]
theorem ident3 {x : Pas} (h1 : x.tag = es ∨ tagE 18 x.tag = 0) (h2 : x.plt ≠ es) (h3 : (nrm x.plt).2 ≠ 0 ∨ (nrm x.plt).1 ≠ x.plt) : identC x = 19 := by
  unfold identC
  rw [if_neg (fun q => h2 q.2), if_neg (fun q => by rcases h1 with h1 | h1; exact q.1 h1; exact q.2 h1), if_pos ⟨h2, h3⟩]
theorem ident4 {x : Pas} (h1 : x.tag = es ∨ tagE 18 x.tag = 0) (h2 : ¬ (x.tag = es ∧ x.plt = es)) (h3 : x.plt = es ∨ ((nrm x.plt).2 = 0 ∧ (nrm x.plt).1 = x.plt)) : identC x = 0 := by
  unfold identC
  rw [if_neg h2, if_neg (fun q => by rcases h1 with h1 | h1; exact q.1 h1; exact q.2 h1), if_neg]
  rintro ⟨q1, q2⟩
  rcases h3 with h3 | ⟨h3, h4⟩
  · exact q1 h3
  · rcases q2 with q2 | q2
    · exact q2 h3
    · exact q2 h4
end Go.Tw.Ps
namespace Go.Proofs.YtbjhemglecllmaaDoor
open Go.RowKit Go.Tw Go.Tw.Ord Go.Tw.Ps Go.Sort Go.Tw.Plate
set_option maxRecDepth 100000 in
set_option maxHeartbeats 2000000 in
theorem identified_any (x : Pas) (vx : Value) (w : World) (hp : x.plt.size ≤ 1000000) :
    Calls Tryd.prog 35 #[.agg (pCells x vx).toArray] w fun e w' => e = .returned (.int .i64 (identC x)) ∧ Below w.heap.size w w' := by
  obtain ⟨B, hB⟩ : ∃ B, (pCells x vx).toArray = B := ⟨_, rfl⟩
  have n0 : PBox (w.alloc (.cells B 24)) w.heap.size B := heap_alloc_new _ _
  have HB0 := Lib.hid (bl_alloc (Below.refl w.heap.size w) (.cells B 24))
  have HB := Lib.hid hB
  have b3 := n0.cell 3 (v := .string x.tag) (by rw [← hB]; rfl)
  have b4 := n0.cell 4 (v := .string x.plt) (by rw [← hB]; rfl)
  have HTG := Lib.hid (tagCheck_any x.tag (w.alloc (.cells B 24)))
  have HNR := Lib.hid (fun (w' : World) => Normal_any x.plt w' hp)
  obtain ⟨tc, htc⟩ : ∃ tc, tagE 18 x.tag = tc := ⟨_, rfl⟩
  obtain ⟨nc, hnc⟩ : ∃ nc, (normS (normGo [] (codes x.plt))).2 = nc := ⟨_, rfl⟩
  obtain ⟨ns, hns⟩ : ∃ ns, (normS (normGo [] (codes x.plt))).1 = ns := ⟨_, rfl⟩
  rw [htc] at HTG
  rw [hnc, hns] at HNR
  have HNC := Lib.hid (show (nrm x.plt).2 = nc from hnc)
  have HNS := Lib.hid (show (nrm x.plt).1 = ns from hns)
  have HTC := Lib.hid htc
  rw [hB]
  clear hB hp htc hnc hns
  by_cases ht : x.tag = es
  · have e1 : x.tag.toList.isEmpty = true := by rw [emp_iff]; simpa using ht
    have HT := Lib.hid (show x.tag = es ∨ tagE 18 x.tag = 0 from .inl ht)
    have HTE := Lib.hid ht
    clear ht
    by_cases hp : x.plt = es
    · have e2 : x.plt.toList.isEmpty = true := by rw [emp_iff]; simpa using hp
      have HE := Lib.hid (ident1 HTE.out hp)
      clear hp
      go_enter Tryd.func35, Tryd.ntmps35
      go_wp2_with (first
        | (fail))
      go_ret
      exact ⟨ret_i HE.out, HB0.out⟩
    · have e2 : x.plt.toList.isEmpty = false := by rw [emp_iff]; simpa using hp
      have HP := Lib.hid hp
      clear hp
      by_cases hc0 : nc = 0
      · have hc' : (nc != 0) = false := by simp [hc0]
        have HC := Lib.hid (HNC.out.trans hc0)
        clear hc0
        by_cases hs0 : ns = x.plt
        · have hs' : (ns.toList == x.plt.toList) = true := by rw [eq_str]; simpa using hs0
          have hs2 : (ns.toList != x.plt.toList) = false := by rw [bne, hs']; rfl
          have HE := Lib.hid (show identC x = 0 from ident4 HT.out (fun q => HP.out q.2) (.inr ⟨HC.out, HNS.out.trans hs0⟩))
          clear hs0
          go_enter Tryd.func35, Tryd.ntmps35
          go_wp2_with (first
            | (fail)
            | (go_at_call 61
               with_reducible refine (HNR.out _).mono ?_
               rintro e w2 ⟨rfl, hb2⟩
               have n2 := n0.step hb2
               have b5 := n2.cell 4 (v := .string x.plt) (by rw [← HB.out]; rfl)
               have HB2 := Lib.hid (bl_trans HB0.out hb2)
               clear hb2 n2))
          go_ret
          exact ⟨ret_i HE.out, HB2.out⟩
        · have hs' : (ns.toList == x.plt.toList) = false := by rw [eq_str]; simpa using hs0
          have hs2 : (ns.toList != x.plt.toList) = true := by rw [bne, hs']; rfl
          have HE := Lib.hid (show identC x = 19 from ident3 HT.out HP.out (.inr (fun q => hs0 (HNS.out.symm.trans q))))
          clear hs0
          go_enter Tryd.func35, Tryd.ntmps35
          go_wp2_with (first
            | (fail)
            | (go_at_call 61
               with_reducible refine (HNR.out _).mono ?_
               rintro e w2 ⟨rfl, hb2⟩
               have n2 := n0.step hb2
               have b5 := n2.cell 4 (v := .string x.plt) (by rw [← HB.out]; rfl)
               have HB2 := Lib.hid (bl_trans HB0.out hb2)
               clear hb2 n2))
          go_ret
          exact ⟨ret_i HE.out, HB2.out⟩
      · have hc' : (nc != 0) = true := by simp [hc0]
        have HE := Lib.hid (show identC x = 19 from ident3 HT.out HP.out (.inl (fun q => hc0 (HNC.out.symm.trans q))))
        clear hc0
        go_enter Tryd.func35, Tryd.ntmps35
        go_wp2_with (first
          | (fail)
          | (go_at_call 61
             with_reducible refine (HNR.out _).mono ?_
             rintro e w2 ⟨rfl, hb2⟩
             have n2 := n0.step hb2
             have b5 := n2.cell 4 (v := .string x.plt) (by rw [← HB.out]; rfl)
             have HB2 := Lib.hid (bl_trans HB0.out hb2)
             clear hb2 n2))
        go_ret
        exact ⟨ret_i HE.out, HB2.out⟩
  · have e1 : x.tag.toList.isEmpty = false := by rw [emp_iff]; simpa using ht
    have HTE := Lib.hid ht
    clear ht
    by_cases htc0 : tc = 0
    · have htc' : (tc != 0) = false := by simp [htc0]
      have HT := Lib.hid (show x.tag = es ∨ tagE 18 x.tag = 0 from .inr (HTC.out.trans htc0))
      clear htc0
      by_cases hp : x.plt = es
      · have e2 : x.plt.toList.isEmpty = true := by rw [emp_iff]; simpa using hp
        have HE := Lib.hid ((fun h => ident4 HT.out (fun q => HTE.out q.1) (.inl h)) hp)
        clear hp
        go_enter Tryd.func35, Tryd.ntmps35
        go_wp2_with (first
          | (go_at_call 60
             with_reducible refine HTG.out.mono ?_
             rintro e w1 ⟨rfl, hb1⟩
             have n1 := n0.step hb1
             have b4 := n1.cell 4 (v := .string x.plt) (by rw [← HB.out]; rfl)
             have HB1 := Lib.hid (bl_trans HB0.out hb1)
             clear hb1))
        go_ret
        exact ⟨ret_i HE.out, HB1.out⟩
      · have e2 : x.plt.toList.isEmpty = false := by rw [emp_iff]; simpa using hp
        have HP := Lib.hid hp
        clear hp
        by_cases hc0 : nc = 0
        · have hc' : (nc != 0) = false := by simp [hc0]
          have HC := Lib.hid (HNC.out.trans hc0)
          clear hc0
          by_cases hs0 : ns = x.plt
          · have hs' : (ns.toList == x.plt.toList) = true := by rw [eq_str]; simpa using hs0
            have hs2 : (ns.toList != x.plt.toList) = false := by rw [bne, hs']; rfl
            have HE := Lib.hid (show identC x = 0 from ident4 HT.out (fun q => HP.out q.2) (.inr ⟨HC.out, HNS.out.trans hs0⟩))
            clear hs0
            go_enter Tryd.func35, Tryd.ntmps35
            go_wp2_with (first
              | (go_at_call 60
                 with_reducible refine HTG.out.mono ?_
                 rintro e w1 ⟨rfl, hb1⟩
                 have n1 := n0.step hb1
                 have b4 := n1.cell 4 (v := .string x.plt) (by rw [← HB.out]; rfl)
                 have HB1 := Lib.hid (bl_trans HB0.out hb1)
                 clear hb1)
              | (go_at_call 61
                 with_reducible refine (HNR.out _).mono ?_
                 rintro e w2 ⟨rfl, hb2⟩
                 have n2 := n1.step hb2
                 have b5 := n2.cell 4 (v := .string x.plt) (by rw [← HB.out]; rfl)
                 have HB2 := Lib.hid (bl_trans HB1.out hb2)
                 clear hb2 n2))
            go_ret
            exact ⟨ret_i HE.out, HB2.out⟩
          · have hs' : (ns.toList == x.plt.toList) = false := by rw [eq_str]; simpa using hs0
            have hs2 : (ns.toList != x.plt.toList) = true := by rw [bne, hs']; rfl
            have HE := Lib.hid (show identC x = 19 from ident3 HT.out HP.out (.inr (fun q => hs0 (HNS.out.symm.trans q))))
            clear hs0
            go_enter Tryd.func35, Tryd.ntmps35
            go_wp2_with (first
              | (go_at_call 60
                 with_reducible refine HTG.out.mono ?_
                 rintro e w1 ⟨rfl, hb1⟩
                 have n1 := n0.step hb1
                 have b4 := n1.cell 4 (v := .string x.plt) (by rw [← HB.out]; rfl)
                 have HB1 := Lib.hid (bl_trans HB0.out hb1)
                 clear hb1)
              | (go_at_call 61
                 with_reducible refine (HNR.out _).mono ?_
                 rintro e w2 ⟨rfl, hb2⟩
                 have n2 := n1.step hb2
                 have b5 := n2.cell 4 (v := .string x.plt) (by rw [← HB.out]; rfl)
                 have HB2 := Lib.hid (bl_trans HB1.out hb2)
                 clear hb2 n2))
            go_ret
            exact ⟨ret_i HE.out, HB2.out⟩
        · have hc' : (nc != 0) = true := by simp [hc0]
          have HE := Lib.hid (show identC x = 19 from ident3 HT.out HP.out (.inl (fun q => hc0 (HNC.out.symm.trans q))))
          clear hc0
          go_enter Tryd.func35, Tryd.ntmps35
          go_wp2_with (first
            | (go_at_call 60
               with_reducible refine HTG.out.mono ?_
               rintro e w1 ⟨rfl, hb1⟩
               have n1 := n0.step hb1
               have b4 := n1.cell 4 (v := .string x.plt) (by rw [← HB.out]; rfl)
               have HB1 := Lib.hid (bl_trans HB0.out hb1)
               clear hb1)
            | (go_at_call 61
               with_reducible refine (HNR.out _).mono ?_
               rintro e w2 ⟨rfl, hb2⟩
               have n2 := n1.step hb2
               have b5 := n2.cell 4 (v := .string x.plt) (by rw [← HB.out]; rfl)
               have HB2 := Lib.hid (bl_trans HB1.out hb2)
               clear hb2 n2))
          go_ret
          exact ⟨ret_i HE.out, HB2.out⟩
    · have htc' : (tc != 0) = true := by simp [htc0]
      have HE := Lib.hid (show identC x = tc from (ident2 HTE.out (by rw [HTC.out]; exact htc0)).trans HTC.out)
      clear htc0
      go_enter Tryd.func35, Tryd.ntmps35
      go_wp2_with ((go_at_call 60
                    with_reducible refine HTG.out.mono ?_
                    rintro e w1 ⟨rfl, hb1⟩
                    have n1 := n0.step hb1
                    have b4 := n1.cell 4 (v := .string x.plt) (by rw [← HB.out]; rfl)
                    have HB1 := Lib.hid (bl_trans HB0.out hb1)
                    clear hb1))
      go_ret
      exact ⟨ret_i HE.out, HB1.out⟩
end Go.Proofs.YtbjhemglecllmaaDoor
/-
  Layer 17 (passage): slices.BinarySearchFunc at passages.
-/
namespace Go.Tw.Ps
open Go.RowKit Go.Sort Go.Tw.Ord
theorem bs_lo {a b x : Pas} (h1 : pasC a b ≤ 0) (h2 : pasC b x < 0) : pasC a x < 0 := by
  have h := pasC_cmp.trans a b x h1 (by omega)
  have n : pasC a x ≠ 0 := fun e => by
    have := pasC_zero e
    subst this
    have := pasC_cmp.anti a b
    omega
  omega
theorem bs_hi {a b x : Pas} (h1 : pasC a b ≤ 0) (h2 : 0 ≤ pasC a x) : 0 ≤ pasC b x := by
  have a1 := pasC_cmp.anti a x
  have h := pasC_cmp.trans x a b (by omega) h1
  have a2 := pasC_cmp.anti b x
  omega
end Go.Tw.Ps
namespace Go.Proofs.YtbjhemglecllmaaDoor
open Go.RowKit Go.Tw Go.Tw.Ord Go.Tw.Ps Go.Sort
set_option maxRecDepth 100000 in
set_option maxHeartbeats 1000000 in
theorem bs_any (S : List Pas) (x : Pas) (v vx : Value) (w : World) (h1 : SlIs (tPas eS) (· < w.heap.size) w v S) (h2 : SlIs tSrc (· < w.heap.size) w vx x.src) (hs : S.Pairwise fun x y => pasC x y ≤ 0) (hl : S.length ≤ 1000) :
    Calls Tryd.prog 74 #[v, .agg (pCells x vx).toArray, .func (.func 48) #[] #[]] w fun e w' => (∃ i, e = .returned (.tuple #[.int .i64 i, .bool (decide (x ∈ S))])) ∧ GrB w w' := by
  obtain ⟨ao, cp, g, o, rfl, q1, q2, ho⟩ := pas_row h1
  unfold maxLen at q2
  obtain ⟨B, hB⟩ : ∃ B, (pCells x vx).toArray = B := ⟨_, rfl⟩
  have hb0 : GrB w (w.alloc (.cells B 24)) := (GrB.refl w).alloc _
  have n0 : PBox (w.alloc (.cells B 24)) w.heap.size B := heap_alloc_new _ _
  have HO := Lib.hid ho
  have HN0 := Lib.hid n0
  have HB0 := Lib.hid hb0
  have HBB := Lib.hid hB
  have H2 := Lib.hid h2
  have HS := Lib.hid hs
  rw [hB]
  clear h1 h2 ho hB hb0 n0 hs
  go_enter Tryd.func74, Tryd.ntmps74
  go_wp2
  generalize w.alloc (.cells B 24) = w0 at HN0 HB0 ⊢
  generalize hgb : w.heap.size = gb at HN0 ⊢
  have HGB := Lib.hid hgb
  clear hgb
  go_loopg [9, 10] S.length (fun gx vi vj wr => ∃ i j : Nat, i + gx = j ∧ j ≤ S.length ∧ vi = .int .i64 i ∧ vj = .int .i64 j ∧ Hid ((∀ k (hk : k < S.length), k < i → pasC S[k] x < 0) ∧ (∀ k (hk : k < S.length), j ≤ k → 0 ≤ pasC S[k] x)) ∧ GrB w0 wr)
  case atStart => exact ⟨0, S.length, by omega, Nat.le_refl _, rfl, rfl, Lib.hid ⟨fun k _ h => by omega, fun k _ h => by omega⟩, GrB.refl _⟩
  case round =>
    obtain ⟨i, j, hij, hj, rfl, rfl, HI, hb⟩ := hrel
    by_cases hlt : i < j
    · have k0 : (i : Int) < (j : Int) := by omega
      have k1 : (i : Int) + (j : Int) ≤ 2000 := by omega
      have k2 : (0 : Int) ≤ (i : Int) + (j : Int) := by omega
      go_upto_region 5 with (fail)
      obtain ⟨m, hm, hm1, hm2⟩ : ∃ m : Nat, ((i : Int) + (j : Int)) / 2 = m ∧ i ≤ m ∧ m < j := ⟨(i + j) / 2, by omega, by omega, by omega⟩
      simp only [hm]
      have hmS : m < S.length := by omega
      obtain ⟨rfl, -, hbk, hok, a, n, c, hsl, hc⟩ := HO.out wr (.of_below (HB0.out.trans hb).below) m hmS
      have HLO := Lib.hid (show pasC S[m] x < 0 → (∀ k (hk : k < S.length), k < m + 1 → pasC S[k] x < 0) from fun h k hk hkm => by
        by_cases q : k = m
        · subst q; exact h
        · exact bs_lo (List.pairwise_iff_getElem.1 HS.out k m hk hmS (by omega)) h)
      have HHI := Lib.hid (show ¬ pasC S[m] x < 0 → (∀ k (hk : k < S.length), m ≤ k → 0 ≤ pasC S[k] x) from fun h k hk hkm => by
        by_cases q : m = k
        · subst q; omega
        · exact bs_hi (List.pairwise_iff_getElem.1 HS.out m k hmS hk (by omega)) (by omega))
      generalize S[m] = y at HLO HHI hc hok hsl
      obtain ⟨A, hA⟩ : ∃ A, (pCells y (.slice a n c)).toArray = A := ⟨_, rfl⟩
      have LD1 := Lib.hid (show ∀ n os, Sem.run Tryd.prog (loadCellsFrom ⟨g, o + m * 8, none⟩ 0 8 #[]) (grow (wr.drewN n) os) = .ok A (grow (wr.drewN n) os) from fun n os => by
        rw [← hA]
        exact load_pas _ fun j hj => ((GrB.below ⟨n, os, rfl⟩).cell (p := ⟨g, o + m * 8 + j, none⟩) (Nat.lt_of_lt_of_le hbk (HB0.out.trans hb).below.size)).trans (hc j hj))
      have LD2 := Lib.hid (show ∀ n os, Sem.run Tryd.prog (loadCellsFrom ⟨gb, 0, none⟩ 0 8 #[]) (grow (wr.drewN n) os) = .ok B (grow (wr.drewN n) os) from fun n os =>
        ((HN0.out.step hb.below).step (GrB.below ⟨n, os, rfl⟩)).load HBB.out)
      obtain ⟨d, hd⟩ : ∃ d, pasC y x = d := ⟨_, rfl⟩
      have HON := Lib.hid (show ∀ n os, Calls Tryd.prog 48 #[.agg A, .agg B] (grow (wr.drewN n) os) fun e w' => e = .returned (.int .i64 d) ∧ ∃ q os', w' = grow ((grow (wr.drewN n) os).drewN q) os' from fun n os => by
        rw [← hA, ← HBB.out, ← hd]
        exact compare_any y x _ _ _ (sl_gr hsl (HB0.out.trans hb) ⟨n, os, rfl⟩) (H2.out.step ((HB0.out.trans hb).trans ⟨n, os, rfl⟩).below))
      rw [hd] at HLO HHI
      have HB := Lib.hid hb
      have m0 : (0 : Int) ≤ (m : Int) := by omega
      have m1 : (m : Int) < (S.length : Int) := by omega
      have m2 : (m : Int) + 1 ≤ 2000 := by omega
      clear hA hc hok hb hbk hd hsl hm k0 k1 k2
      refine wp_region_quiet_grown (by kernel_rfl) (by kernel_rfl) ?_
      (iterate 4 (quiet_step (fail)))
      refine wpQuiet_step (fun K hK => ?_)
      rw [if_pos (show _ = true by kernel_rfl)]
      refine quiet_loadA (A := A) rfl Tryd.isAgg24 Tryd.sizeOf24 rfl (fun w' hw' => ?_) (hK _ ?_)
      · obtain ⟨⟨nq, osq⟩, rfl⟩ := hw'
        exact LD1.out nq osq
      clear hK K
      refine wpQuiet_step (fun K hK => ?_)
      rw [if_pos (show _ = true by kernel_rfl)]
      refine quiet_loadA (A := B) rfl Tryd.isAgg24 Tryd.sizeOf24 rfl (fun w' hw' => ?_) (hK _ ?_)
      · obtain ⟨⟨nq, osq⟩, rfl⟩ := hw'
        exact LD2.out nq osq
      clear hK K
      quiet_step ((go_at_call 48; with_reducible exact Calls.grown_of (HON.out _ _)))
      quiet_step (fail)
      refine wpQuiet_nil ?_
      intro _ hw'
      obtain ⟨⟨nq, osq⟩, hw''⟩ := hw'
      subst hw''
      have HGQ := Lib.hid (show GrB wr (grow (wr.drewN nq) osq) from ⟨nq, osq, rfl⟩)
      clear LD1 LD2 HON
      generalize grow (wr.drewN nq) osq = wq at HGQ ⊢
      by_cases hd0 : d < 0
      · have HD := Lib.hid hd0
        go_wp2
        go_roundg (j - (m + 1))
        case measure => omega
        case rel => exact ⟨m + 1, j, by omega, hj, by go_num, rfl, Lib.hid ⟨HLO.out HD.out, HI.out.2⟩, HB.out.trans HGQ.out⟩
      · have HD := Lib.hid hd0
        go_wp2
        go_roundg (m - i)
        case measure => omega
        case rel => exact ⟨i, m, by omega, by omega, rfl, rfl, Lib.hid ⟨HI.out.1, HHI.out HD.out⟩, HB.out.trans HGQ.out⟩
    · obtain rfl : i = j := by omega
      by_cases hin : i < S.length
      · obtain ⟨rfl, -, hbk, hok, a, n, c, hsl, hc⟩ := HO.out wr (.of_below (HB0.out.trans hb).below) i hin
        have HMM := Lib.hid (show decide (x ∈ S) = decide (pasC S[i] x = 0) from by
          have h0 := HI.out.2 i hin (Nat.le_refl _)
          rw [Bool.eq_iff_iff, decide_eq_true_eq, decide_eq_true_eq]
          constructor
          · intro hx
            obtain ⟨k, hk, rfl⟩ := List.getElem_of_mem hx
            by_cases q : k < i
            · have := HI.out.1 k hk q
              have := pasC_self S[k]
              omega
            · by_cases q2 : k = i
              · subst q2; exact pasC_self _
              · have := List.pairwise_iff_getElem.1 HS.out i k hin hk (by omega)
                omega
          · intro e
            rw [← pasC_zero e]
            exact List.getElem_mem hin)
        generalize S[i] = y at HMM hc hok hsl
        obtain ⟨A, hA⟩ : ∃ A, (pCells y (.slice a n c)).toArray = A := ⟨_, rfl⟩
        have LD1 := Lib.hid (show ∀ n os, Sem.run Tryd.prog (loadCellsFrom ⟨g, o + i * 8, none⟩ 0 8 #[]) (grow (wr.drewN n) os) = .ok A (grow (wr.drewN n) os) from fun n os => by
          rw [← hA]
          exact load_pas _ fun j hj => ((GrB.below ⟨n, os, rfl⟩).cell (p := ⟨g, o + i * 8 + j, none⟩) (Nat.lt_of_lt_of_le hbk (HB0.out.trans hb).below.size)).trans (hc j hj))
        have LD2 := Lib.hid (show ∀ n os, Sem.run Tryd.prog (loadCellsFrom ⟨gb, 0, none⟩ 0 8 #[]) (grow (wr.drewN n) os) = .ok B (grow (wr.drewN n) os) from fun n os =>
          ((HN0.out.step hb.below).step (GrB.below ⟨n, os, rfl⟩)).load HBB.out)
        obtain ⟨d, hd⟩ : ∃ d, pasC y x = d := ⟨_, rfl⟩
        have HON := Lib.hid (show ∀ n os, Calls Tryd.prog 48 #[.agg A, .agg B] (grow (wr.drewN n) os) fun e w' => e = .returned (.int .i64 d) ∧ ∃ q os', w' = grow ((grow (wr.drewN n) os).drewN q) os' from fun n os => by
          rw [← hA, ← HBB.out, ← hd]
          exact compare_any y x _ _ _ (sl_gr hsl (HB0.out.trans hb) ⟨n, os, rfl⟩) (H2.out.step ((HB0.out.trans hb).trans ⟨n, os, rfl⟩).below))
        rw [hd] at HMM
        have HB := Lib.hid hb
        have k0 : (0 : Int) ≤ (i : Int) := by omega
        have k1 : (i : Int) < (S.length : Int) := by omega
        clear hA hc hok hb hbk hd hsl hij
        obtain ⟨r, hr⟩ : ∃ r, (d == 0) = r := ⟨_, rfl⟩
        have HR := Lib.hid (show decide (x ∈ S) = r from by rw [HMM.out, ← hr]; by_cases q : d = 0 <;> simp [q])
        go_upto_region 8 with (fail)
        refine QW.regionG (by kernel_rfl) (by kernel_rfl) ?_
        (iterate 9 (refine QW.yes (by kernel_rfl) (fun K hK => ?_)
                    go_simp
                    (with_reducible refine hK _ ?_)
                    clear hK K))
        refine QW.yes (by kernel_rfl) (fun K hK => ?_)
        refine quiet_loadA (A := A) rfl Tryd.isAgg24 Tryd.sizeOf24 rfl (fun w' hw' => ?_) (hK _ ?_)
        · obtain ⟨⟨nq, osq⟩, rfl⟩ := hw'
          exact LD1.out nq osq
        clear hK K
        refine QW.yes (by kernel_rfl) (fun K hK => ?_)
        refine quiet_loadA (A := B) rfl Tryd.isAgg24 Tryd.sizeOf24 rfl (fun w' hw' => ?_) (hK _ ?_)
        · obtain ⟨⟨nq, osq⟩, rfl⟩ := hw'
          exact LD2.out nq osq
        clear hK K
        (refine QW.yes (by kernel_rfl) (fun K hK => ?_)
         go_simp
         apply Exists.intro
         refine ⟨fun _ => ?_, hK _ ?_⟩
         (go_at_call 48; with_reducible exact Calls.grown_of (HON.out _ _))
         clear hK K)
        (iterate 4 (refine QW.yes (by kernel_rfl) (fun K hK => ?_)
                    go_simp
                    (with_reducible refine hK _ ?_)
                    clear hK K))
        refine QW.nil ?_
        intro _ hw'
        obtain ⟨⟨nq, osq⟩, hw''⟩ := hw'
        subst hw''
        have HGQ := Lib.hid (show GrB wr (grow (wr.drewN nq) osq) from ⟨nq, osq, rfl⟩)
        clear LD1 LD2 HON
        generalize grow (wr.drewN nq) osq = wq at HGQ ⊢
        go_wp2
        go_ret2
        exact ⟨⟨i, congrArg (fun q => Ending.returned (.tuple #[.int .i64 i, .bool q])) HR.out.symm⟩, HB0.out.trans (HB.out.trans HGQ.out)⟩
      · have hie : i = S.length := by omega
        have HR := Lib.hid (show decide (x ∈ S) = false from by
          rw [decide_eq_false_iff_not]
          intro hx
          obtain ⟨k, hk, rfl⟩ := List.getElem_of_mem hx
          have := HI.out.1 k hk (by omega)
          have := pasC_self S[k]
          omega)
        have HB := Lib.hid hb
        have k1 : ¬ (i : Int) < (S.length : Int) := by omega
        clear hb hij hie
        go_upto_region 8 with (fail)
        refine QW.regionG (by kernel_rfl) (by kernel_rfl) ?_
        (iterate 5 (refine QW.yes (by kernel_rfl) (fun K hK => ?_)
                    go_simp
                    (with_reducible refine hK _ ?_)
                    clear hK K))
        (iterate 8 (refine QW.no (by kernel_rfl) ?_
                    (try simp only [Act.put])
                    (try simp only [List.setIfInBounds_toArray])
                    (repeat (first | simp only [List.set_cons_succ] | simp only [List.set_cons_zero]))))
        (iterate 3 (refine QW.yes (by kernel_rfl) (fun K hK => ?_)
                    go_simp
                    (with_reducible refine hK _ ?_)
                    clear hK K))
        refine QW.nil ?_
        intro _ hw'
        obtain ⟨⟨nq, osq⟩, hw''⟩ := hw'
        subst hw''
        have HGQ := Lib.hid (show GrB wr (grow (wr.drewN nq) osq) from ⟨nq, osq, rfl⟩)
        generalize grow (wr.drewN nq) osq = wq at HGQ ⊢
        go_wp2
        go_ret2
        exact ⟨⟨i, congrArg (fun q => Ending.returned (.tuple #[.int .i64 i, .bool q])) HR.out.symm⟩, HB0.out.trans (HB.out.trans HGQ.out)⟩
end Go.Proofs.YtbjhemglecllmaaDoor
