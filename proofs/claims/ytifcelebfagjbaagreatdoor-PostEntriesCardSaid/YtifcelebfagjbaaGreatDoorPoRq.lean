/-
  Layer 33 (account): the reference's correct, conflict, conflicts, Check, CheckAll (some number; if it is 0, the names are short).
-/
import Derived.Test.YtifcelebfagjbaaGreatDoorPoRp
import Derived.Test.YtifcelebfagjbaaGreatDoorPoNr
import Derived.Test.YtifcelebfagjbaaGreatDoorMgR
namespace Go.Tw.Po
open Go.RowKit Go.Tw
def conflB (a b : Ow) : Bool := decide (a.tag = b.tag) && (decide (a.plt = b.plt) && (validI a.fr a.to && (validI b.fr b.to && (decide (a.fr < b.to) && decide (b.fr < a.to)))))
/-- plates that can be handed over -/
def PltOk (l : List Ow) : Prop := ∀ o ∈ l, o.plt.size ≤ 140737488351232
end Go.Tw.Po
namespace Go.Proofs.YtifcelebfagjbaaGreatDoor
open Go.RowKit Go.Tw Go.Tw.Ord Go.Tw.Po Go.Sort Go.Tw.Plate
def NmB (s : ByteArray) (e : Ending) : Prop := ∃ b, e = .returned (.bool b) ∧ (b = true → s.size ≤ 12)
def ChkI (p : Prop) (e : Ending) : Prop := ∃ n, e = .returned (.int .i64 n) ∧ (n = 0 → p)
set_option maxRecDepth 100000 in
set_option maxHeartbeats 2000000 in
theorem isName_any (s : ByteArray) (w : World) : Calls Tryz.prog 100 #[.string s] w fun e w' => NmB s e ∧ Below w.heap.size w w' := by
  by_cases h0 : s.size = 0
  · have hlt : (s.size : Int) < 1 := by omega
    go_enter Tryz.func100, Tryz.ntmps100
    go_wp2
    go_ret
    exact ⟨⟨_, rfl, fun h => by cases h⟩, Below.refl _ _⟩
  have hn1 : ¬ (s.size : Int) < 1 := by omega
  by_cases h12 : 12 < s.size
  · have hlt : (12 : Int) < (s.size : Int) := by omega
    go_enter Tryz.func100, Tryz.ntmps100
    go_wp2
    go_ret
    exact ⟨⟨_, rfl, fun h => by cases h⟩, Below.refl _ _⟩
  have hle : ¬ (12 : Int) < (s.size : Int) := by omega
  have hs0 : (0 : Int) < (s.size : Int) := by omega
  have HSZ := Lib.hid (show s.size ≤ 12 by omega)
  have hp : 0 < s.size := by omega
  by_cases ha : s[0].toNat < 97
  · have g1 : (s[0].toNat : Int) < 97 := by omega
    clear ha
    go_enter Tryz.func100, Tryz.ntmps100
    go_wp2
    go_ret
    exact ⟨⟨_, rfl, fun h => by cases h⟩, Below.refl _ _⟩
  have g1 : ¬ (s[0].toNat : Int) < 97 := by omega
  by_cases hb : 122 < s[0].toNat
  · have g2 : (122 : Int) < (s[0].toNat : Int) := by omega
    clear ha hb
    go_enter Tryz.func100, Tryz.ntmps100
    go_wp2
    go_ret
    exact ⟨⟨_, rfl, fun h => by cases h⟩, Below.refl _ _⟩
  have g2 : ¬ (122 : Int) < (s[0].toNat : Int) := by omega
  clear ha hb
  go_enter Tryz.func100, Tryz.ntmps100
  go_wp2
  clear g1 g2
  go_loopg [3] s.size (fun g i wr => ∃ k : Nat, k + g = s.size ∧ i = .int .i64 k ∧ w = wr)
  case atStart => exact ⟨0, by omega, rfl, rfl⟩
  case round =>
    obtain ⟨k, hk, rfl, rfl⟩ := hrel
    by_cases hlt : k < s.size
    case neg =>
      go_wp2
      go_ret
      exact ⟨⟨_, rfl, fun _ => HSZ.out⟩, Below.refl _ _⟩
    have k0 : (0 : Int) ≤ (k : Int) := by omega
    have k1 : (k : Int) < (s.size : Int) := by omega
    have hb := s[k].toNat_lt
    obtain ⟨b, hbb⟩ : ∃ b : Nat, b = s[k].toNat := ⟨_, rfl⟩
    have hz : (97 ≤ b ∧ b ≤ 122) ∨ (b = 45) ∨ (48 ≤ b ∧ b ≤ 57) ∨ (b < 48 ∧ b ≠ 45) ∨ (57 < b ∧ b < 97) ∨ (122 < b) := by omega
    rcases hz with ⟨q1, q2⟩ | q1 | ⟨q1, q2⟩ | ⟨q1, q2⟩ | ⟨q1, q2⟩ | q1
    · have g1 : (97 : Int) ≤ (s[k].toNat : Int) := by omega
      have g2 : (s[k].toNat : Int) ≤ 122 := by omega
      clear q1 hb hbb
      (try clear q2)
      go_wp2
      go_roundg (s.size - (k + 1))
      case measure => omega
      case rel => exact ⟨k + 1, by omega, by go_num, rfl⟩
    · have g1 : (s[k].toNat : Int) < 97 := by omega
      have g3 : (s[k].toNat : Int) < 48 := by omega
      have g5 : ((s[k].toNat : Int) == 45) = true := by simp; omega
      clear q1 hb hbb
      (try clear q2)
      go_wp2
      go_roundg (s.size - (k + 1))
      case measure => omega
      case rel => exact ⟨k + 1, by omega, by go_num, rfl⟩
    · have g1 : (s[k].toNat : Int) < 97 := by omega
      have g3 : (48 : Int) ≤ (s[k].toNat : Int) := by omega
      have g4 : (s[k].toNat : Int) ≤ 57 := by omega
      clear q1 hb hbb
      (try clear q2)
      go_wp2
      go_roundg (s.size - (k + 1))
      case measure => omega
      case rel => exact ⟨k + 1, by omega, by go_num, rfl⟩
    · have g1 : (s[k].toNat : Int) < 97 := by omega
      have g3 : (s[k].toNat : Int) < 48 := by omega
      have g5 : ((s[k].toNat : Int) == 45) = false := by simp; omega
      clear q1 hb hbb
      (try clear q2)
      go_wp2
      go_ret
      exact ⟨⟨_, rfl, fun h => by cases h⟩, Below.refl _ _⟩
    · have g1 : (s[k].toNat : Int) < 97 := by omega
      have g3 : (48 : Int) ≤ (s[k].toNat : Int) := by omega
      have g4 : decide ((s[k].toNat : Int) ≤ 57) = false := by simp; omega
      have g5 : ((s[k].toNat : Int) == 45) = false := by simp; omega
      clear q1 hb hbb
      (try clear q2)
      go_wp2
      go_ret
      exact ⟨⟨_, rfl, fun h => by cases h⟩, Below.refl _ _⟩
    · have g1 : (97 : Int) ≤ (s[k].toNat : Int) := by omega
      have g2 : decide ((s[k].toNat : Int) ≤ 122) = false := by simp; omega
      have g3 : (48 : Int) ≤ (s[k].toNat : Int) := by omega
      have g4 : decide ((s[k].toNat : Int) ≤ 57) = false := by simp; omega
      have g5 : ((s[k].toNat : Int) == 45) = false := by simp; omega
      clear q1 hb hbb
      (try clear q2)
      go_wp2
      go_ret
      exact ⟨⟨_, rfl, fun h => by cases h⟩, Below.refl _ _⟩
/-- two assignments in two boxes -/
structure CFW (n : Nat) (a b : Ow) (wr : World) : Prop where
  b0 : wr.heap[n]? = some (.cells #[.string a.tag, .string a.plt, .int .i64 a.fr, .int .i64 a.to] 138 (0, 0))
  b1 : wr.heap[n + 1]? = some (.cells #[.string b.tag, .string b.plt, .int .i64 b.fr, .int .i64 b.to] 138 (0, 0))
theorem CFW.step {n B : Nat} {a b : Ow} {w w' : World} (h : CFW n a b w) (hb : Below B w w') (hB : n + 1 < B) : CFW n a b w' :=
  ⟨(hb.block _ (by omega)).trans h.b0, (hb.block _ (by omega)).trans h.b1⟩
theorem blk4 {w : World} {g : Nat} {a b c d : Value} {t : TypeId} (H : w.heap[g]? = some (.cells #[a, b, c, d] t (0, 0))) : w.cell? ⟨g, 0, none⟩ = some a ∧ w.cell? ⟨g, 1, none⟩ = some b ∧ w.cell? ⟨g, 2, none⟩ = some c ∧ w.cell? ⟨g, 3, none⟩ = some d :=
  ⟨cell_of_row _ _ 0 _ _ _ H, cell_of_row _ _ 1 _ _ _ H, cell_of_row _ _ 2 _ _ _ H, cell_of_row _ _ 3 _ _ _ H⟩
set_option maxRecDepth 100000 in
set_option maxHeartbeats 4000000 in
theorem conflict_any (a b : Ow) (w : World) : Calls Tryz.prog 102 #[.agg #[.string a.tag, .string a.plt, .int .i64 a.fr, .int .i64 a.to], .agg #[.string b.tag, .string b.plt, .int .i64 b.fr, .int .i64 b.to]] w fun e w' => e = .returned (.bool (conflB a b)) ∧ Below w.heap.size w w' := by
  have n0 := alloc2_0 w (.cells #[.string a.tag, .string a.plt, .int .i64 a.fr, .int .i64 a.to] 138) (.cells #[.string b.tag, .string b.plt, .int .i64 b.fr, .int .i64 b.to] 138)
  have n1 := alloc2_1 w (.cells #[.string a.tag, .string a.plt, .int .i64 a.fr, .int .i64 a.to] 138) (.cells #[.string b.tag, .string b.plt, .int .i64 b.fr, .int .i64 b.to] 138)
  have HC0 := Lib.hid (show CFW w.heap.size a b _ from ⟨n0, n1⟩)
  have HB0 := Lib.hid (bl_alloc (bl_alloc (Below.refl w.heap.size w) (.cells #[.string a.tag, .string a.plt, .int .i64 a.fr, .int .i64 a.to] 138)) (.cells #[.string b.tag, .string b.plt, .int .i64 b.fr, .int .i64 b.to] 138))
  obtain ⟨x0, x1, x2, x3⟩ := blk4 n0
  obtain ⟨y0, y1, y2, y3⟩ := blk4 n1
  have HV1 := Lib.hid (fun W => isSpan_any a.fr a.to W)
  have HV2 := Lib.hid (fun W => isSpan_any b.fr b.to W)
  clear n0 n1
  obtain ⟨p1, h1⟩ : ∃ p, (a.tag.toList == b.tag.toList) = p := ⟨_, rfl⟩
  obtain ⟨p2, h2⟩ : ∃ p, (a.plt.toList == b.plt.toList) = p := ⟨_, rfl⟩
  obtain ⟨p3, h3⟩ : ∃ p, validI a.fr a.to = p := ⟨_, rfl⟩
  obtain ⟨p4, h4⟩ : ∃ p, validI b.fr b.to = p := ⟨_, rfl⟩
  obtain ⟨p5, h5⟩ : ∃ p, decide (a.fr < b.to) = p := ⟨_, rfl⟩
  obtain ⟨p6, h6⟩ : ∃ p, decide (b.fr < a.to) = p := ⟨_, rfl⟩
  have HR := Lib.hid (show conflB a b = (p1 && (p2 && (p3 && (p4 && (p5 && p6))))) by unfold conflB; rw [← eq_str, ← eq_str, h1, h2, h3, h4, h5, h6])
  rw [h3] at HV1
  rw [h4] at HV2
  clear h3 h4
  go_enter Tryz.func102, Tryz.ntmps102
  cases p1 with
  | false =>
    clear h2 h5 h6
    go_wp2_with (go_at_call 133
                 first
                 | (with_reducible refine (HV1.out _).mono ?_
                    rintro e w2 ⟨rfl, hb2⟩
                    have HB2 := Lib.hid (bl_trans HB0.out hb2)
                    have HC2 := Lib.hid (HC0.out.step hb2 (by simp))
                    clear hb2 x0 x1 x2 x3 y0 y1 y2 y3
                    obtain ⟨x0, x1, x2, x3⟩ := blk4 HC2.out.b0
                    obtain ⟨y0, y1, y2, y3⟩ := blk4 HC2.out.b1)
                 | (with_reducible refine (HV2.out _).mono ?_
                    rintro e w3 ⟨rfl, hb3⟩
                    have HB3 := Lib.hid (bl_trans HB2.out hb3)
                    have HC3 := Lib.hid (HC2.out.step hb3 (lt_of_heap HC2.out.b1))
                    clear hb3 x0 x1 x2 x3 y0 y1 y2 y3
                    obtain ⟨x0, x1, x2, x3⟩ := blk4 HC3.out.b0
                    obtain ⟨y0, y1, y2, y3⟩ := blk4 HC3.out.b1))
    go_ret
    exact ⟨ret_bool HR.out, by first | exact HB3.out | exact HB2.out | exact HB0.out⟩
  | true =>
  cases p2 with
  | false =>
    clear h5 h6
    go_wp2_with (go_at_call 133
                 first
                 | (with_reducible refine (HV1.out _).mono ?_
                    rintro e w2 ⟨rfl, hb2⟩
                    have HB2 := Lib.hid (bl_trans HB0.out hb2)
                    have HC2 := Lib.hid (HC0.out.step hb2 (by simp))
                    clear hb2 x0 x1 x2 x3 y0 y1 y2 y3
                    obtain ⟨x0, x1, x2, x3⟩ := blk4 HC2.out.b0
                    obtain ⟨y0, y1, y2, y3⟩ := blk4 HC2.out.b1)
                 | (with_reducible refine (HV2.out _).mono ?_
                    rintro e w3 ⟨rfl, hb3⟩
                    have HB3 := Lib.hid (bl_trans HB2.out hb3)
                    have HC3 := Lib.hid (HC2.out.step hb3 (lt_of_heap HC2.out.b1))
                    clear hb3 x0 x1 x2 x3 y0 y1 y2 y3
                    obtain ⟨x0, x1, x2, x3⟩ := blk4 HC3.out.b0
                    obtain ⟨y0, y1, y2, y3⟩ := blk4 HC3.out.b1))
    go_ret
    exact ⟨ret_bool HR.out, by first | exact HB3.out | exact HB2.out | exact HB0.out⟩
  | true =>
  cases p3 with
  | false =>
    clear h5 h6
    go_wp2_with (go_at_call 133
                 first
                 | (with_reducible refine (HV1.out _).mono ?_
                    rintro e w2 ⟨rfl, hb2⟩
                    have HB2 := Lib.hid (bl_trans HB0.out hb2)
                    have HC2 := Lib.hid (HC0.out.step hb2 (by simp))
                    clear hb2 x0 x1 x2 x3 y0 y1 y2 y3
                    obtain ⟨x0, x1, x2, x3⟩ := blk4 HC2.out.b0
                    obtain ⟨y0, y1, y2, y3⟩ := blk4 HC2.out.b1)
                 | (with_reducible refine (HV2.out _).mono ?_
                    rintro e w3 ⟨rfl, hb3⟩
                    have HB3 := Lib.hid (bl_trans HB2.out hb3)
                    have HC3 := Lib.hid (HC2.out.step hb3 (lt_of_heap HC2.out.b1))
                    clear hb3 x0 x1 x2 x3 y0 y1 y2 y3
                    obtain ⟨x0, x1, x2, x3⟩ := blk4 HC3.out.b0
                    obtain ⟨y0, y1, y2, y3⟩ := blk4 HC3.out.b1))
    go_ret
    exact ⟨ret_bool HR.out, by first | exact HB3.out | exact HB2.out | exact HB0.out⟩
  | true =>
  cases p4 with
  | false =>
    clear h5 h6
    go_wp2_with (go_at_call 133
                 first
                 | (with_reducible refine (HV1.out _).mono ?_
                    rintro e w2 ⟨rfl, hb2⟩
                    have HB2 := Lib.hid (bl_trans HB0.out hb2)
                    have HC2 := Lib.hid (HC0.out.step hb2 (by simp))
                    clear hb2 x0 x1 x2 x3 y0 y1 y2 y3
                    obtain ⟨x0, x1, x2, x3⟩ := blk4 HC2.out.b0
                    obtain ⟨y0, y1, y2, y3⟩ := blk4 HC2.out.b1)
                 | (with_reducible refine (HV2.out _).mono ?_
                    rintro e w3 ⟨rfl, hb3⟩
                    have HB3 := Lib.hid (bl_trans HB2.out hb3)
                    have HC3 := Lib.hid (HC2.out.step hb3 (lt_of_heap HC2.out.b1))
                    clear hb3 x0 x1 x2 x3 y0 y1 y2 y3
                    obtain ⟨x0, x1, x2, x3⟩ := blk4 HC3.out.b0
                    obtain ⟨y0, y1, y2, y3⟩ := blk4 HC3.out.b1))
    go_ret
    exact ⟨ret_bool HR.out, by first | exact HB3.out | exact HB2.out | exact HB0.out⟩
  | true =>
  cases p5 with
  | false => go_wp2_with (go_at_call 133
                          first
                          | (with_reducible refine (HV1.out _).mono ?_
                             rintro e w2 ⟨rfl, hb2⟩
                             have HB2 := Lib.hid (bl_trans HB0.out hb2)
                             have HC2 := Lib.hid (HC0.out.step hb2 (by simp))
                             clear hb2 x0 x1 x2 x3 y0 y1 y2 y3
                             obtain ⟨x0, x1, x2, x3⟩ := blk4 HC2.out.b0
                             obtain ⟨y0, y1, y2, y3⟩ := blk4 HC2.out.b1)
                          | (with_reducible refine (HV2.out _).mono ?_
                             rintro e w3 ⟨rfl, hb3⟩
                             have HB3 := Lib.hid (bl_trans HB2.out hb3)
                             have HC3 := Lib.hid (HC2.out.step hb3 (lt_of_heap HC2.out.b1))
                             clear hb3 x0 x1 x2 x3 y0 y1 y2 y3
                             obtain ⟨x0, x1, x2, x3⟩ := blk4 HC3.out.b0
                             obtain ⟨y0, y1, y2, y3⟩ := blk4 HC3.out.b1))
             go_ret
             exact ⟨ret_bool HR.out, by first | exact HB3.out | exact HB2.out | exact HB0.out⟩
  | true =>
  cases p6 with
  | false => go_wp2_with (go_at_call 133
                          first
                          | (with_reducible refine (HV1.out _).mono ?_
                             rintro e w2 ⟨rfl, hb2⟩
                             have HB2 := Lib.hid (bl_trans HB0.out hb2)
                             have HC2 := Lib.hid (HC0.out.step hb2 (by simp))
                             clear hb2 x0 x1 x2 x3 y0 y1 y2 y3
                             obtain ⟨x0, x1, x2, x3⟩ := blk4 HC2.out.b0
                             obtain ⟨y0, y1, y2, y3⟩ := blk4 HC2.out.b1)
                          | (with_reducible refine (HV2.out _).mono ?_
                             rintro e w3 ⟨rfl, hb3⟩
                             have HB3 := Lib.hid (bl_trans HB2.out hb3)
                             have HC3 := Lib.hid (HC2.out.step hb3 (lt_of_heap HC2.out.b1))
                             clear hb3 x0 x1 x2 x3 y0 y1 y2 y3
                             obtain ⟨x0, x1, x2, x3⟩ := blk4 HC3.out.b0
                             obtain ⟨y0, y1, y2, y3⟩ := blk4 HC3.out.b1))
             go_ret
             exact ⟨ret_bool HR.out, by first | exact HB3.out | exact HB2.out | exact HB0.out⟩
  | true => go_wp2_with (go_at_call 133
                         first
                         | (with_reducible refine (HV1.out _).mono ?_
                            rintro e w2 ⟨rfl, hb2⟩
                            have HB2 := Lib.hid (bl_trans HB0.out hb2)
                            have HC2 := Lib.hid (HC0.out.step hb2 (by simp))
                            clear hb2 x0 x1 x2 x3 y0 y1 y2 y3
                            obtain ⟨x0, x1, x2, x3⟩ := blk4 HC2.out.b0
                            obtain ⟨y0, y1, y2, y3⟩ := blk4 HC2.out.b1)
                         | (with_reducible refine (HV2.out _).mono ?_
                            rintro e w3 ⟨rfl, hb3⟩
                            have HB3 := Lib.hid (bl_trans HB2.out hb3)
                            have HC3 := Lib.hid (HC2.out.step hb3 (lt_of_heap HC2.out.b1))
                            clear hb3 x0 x1 x2 x3 y0 y1 y2 y3
                            obtain ⟨x0, x1, x2, x3⟩ := blk4 HC3.out.b0
                            obtain ⟨y0, y1, y2, y3⟩ := blk4 HC3.out.b1))
            go_ret
            exact ⟨ret_bool HR.out, by first | exact HB3.out | exact HB2.out | exact HB0.out⟩
set_option maxRecDepth 100000 in
set_option maxHeartbeats 2000000 in
theorem conflicts_any (l : List Ow) (v : Value) (o : Ow) (w : World) (h : SlIs tOw (· < w.heap.size) w v l) :
    Calls Tryz.prog 61 #[v, .agg #[.string o.tag, .string o.plt, .int .i64 o.fr, .int .i64 o.to]] w fun e w' => e = .returned (.bool (l.any fun a => conflB a o)) ∧ Below w.heap.size w w' := by
  have n0 := alloc1_0 w (.cells #[.string o.tag, .string o.plt, .int .i64 o.fr, .int .i64 o.to] 138)
  have HB0 := Lib.hid (bl_alloc (Below.refl w.heap.size w) (.cells #[.string o.tag, .string o.plt, .int .i64 o.fr, .int .i64 o.to] 138))
  have HN := Lib.hid n0
  obtain ⟨ao, cap, bi, off, rfl, hl, hm, ho⟩ := ow_open h
  unfold maxLen at hm
  have HO := Lib.hid ho
  clear h ho n0
  go_enter Tryz.func61, Tryz.ntmps61
  go_wp2
  generalize w.alloc (.cells #[.string o.tag, .string o.plt, .int .i64 o.fr, .int .i64 o.to] 138) = w0 at HB0 HN ⊢
  have hl0 := lt_of_heap HN.out
  go_loopg [5] l.length (fun g i wr => ∃ k : Nat, k + g = l.length ∧ i = .int .i64 k ∧ Hid (∀ j (hj : j < l.length), j < k → conflB l[j] o = false) ∧ Hid (Below w0.heap.size w0 wr))
  case atStart => exact ⟨0, by omega, rfl, Lib.hid (fun j _ h => by omega), Lib.hid (Below.refl _ _)⟩
  case round =>
    obtain ⟨k, hk, rfl, HT, HBW⟩ := hrel
    have HWW := Lib.hid (bl_trans HB0.out HBW.out)
    by_cases hlt : k < l.length
    · obtain ⟨rfl, -, hbi, -, c0, c1, c2, c3⟩ := HO.out wr (.of_below HWW.out) k hlt
      have k0 : (0 : Int) ≤ (k : Int) := by omega
      have k1 : (k : Int) < (l.length : Int) := by omega
      have HG1 := Lib.hid (show ∀ j (hj : j < l.length), j = k → l[j] = l[k] by rintro j hj rfl; rfl)
      have HY := Lib.hid (show conflB l[k] o = true → (l.any fun a => conflB a o) = true from fun h => List.any_eq_true.2 ⟨_, List.getElem_mem hlt, h⟩)
      generalize l[k] = y at *
      obtain ⟨x0, x1, x2, x3⟩ := blk4 ((HBW.out.block _ hl0).trans HN.out)
      have b0 := cell_regrown c0
      have b1 := cell_regrown c1
      have b2 := cell_regrown c2
      have b3 := cell_regrown c3
      have d0 := cell_regrown x0
      have d1 := cell_regrown x1
      have d2 := cell_regrown x2
      have d3 := cell_regrown x3
      obtain ⟨q, hq⟩ : ∃ q, conflB y o = q := ⟨_, rfl⟩
      have HQ := Lib.hid hq
      have cC := fun d os => Calls.regrown_of (conflict_any y o (grow (redrawn wr d) os))
      rw [hq] at cC
      clear hq c0 c1 c2 c3 x0 x1 x2 x3
      go_upto_region 4 with (fail)
      refine wp_region_quiet_below (by kernel_rfl) (by kernel_rfl) ?_
      (repeat (quiet_step (first | (go_at_call 102; with_reducible exact cC _ _))))
      refine wpQuiet_nil ?_
      intro _ hw'
      obtain ⟨⟨dq, osq⟩, hw''⟩ := hw'
      subst hw''
      have HGQ := Lib.hid (bl_trans HBW.out (below_regrown wr dq osq))
      generalize grow (redrawn wr dq) osq = wq at HGQ ⊢
      clear cC b0 b1 b2 b3 d0 d1 d2 d3
      cases q with
      | true =>
        go_wp2
        go_ret
        exact ⟨ret_bool (HY.out HQ.out), bl_trans HB0.out HGQ.out⟩
      | false =>
        go_wp2
        go_roundg (l.length - (k + 1))
        case measure => omega
        case rel => exact ⟨k + 1, by omega, by go_num, Lib.hid (fun j hj h => by
          by_cases e : j = k
          · rw [HG1.out j hj e]; exact HQ.out
          · exact HT.out j hj (by omega)), HGQ⟩
    · have hkd : decide ((k : Int) < (l.length : Int)) = false := by simp; omega
      have HR := Lib.hid (show (l.any fun a => conflB a o) = false from List.any_eq_false.2 fun x hx => by
        obtain ⟨j, hj, rfl⟩ := List.getElem_of_mem hx
        rw [HT.out j hj (by omega)]
        decide)
      go_wp2
      go_ret
      exact ⟨ret_bool HR.out, HWW.out⟩
set_option maxRecDepth 100000 in
set_option maxHeartbeats 4000000 in
theorem correct_any (o : Ow) (w : World) (hp : o.plt.size ≤ 140737488351232) : Calls Tryz.prog 101 #[.agg #[.string o.tag, .string o.plt, .int .i64 o.fr, .int .i64 o.to]] w fun e w' => ChkI True e ∧ Below w.heap.size w w' := by
  have n0 := alloc1_0 w (.cells #[.string o.tag, .string o.plt, .int .i64 o.fr, .int .i64 o.to] 138)
  have HB2 := Lib.hid (bl_alloc (Below.refl w.heap.size w) (.cells #[.string o.tag, .string o.plt, .int .i64 o.fr, .int .i64 o.to] 138))
  have HN2 := Lib.hid n0
  have HTG := Lib.hid (fun (w' : World) => tagCheckR_any o.tag w')
  have HNR := Lib.hid (fun (w' : World) => NormalR_any o.plt w' hp)
  have HSP := Lib.hid (fun (w' : World) => isSpan_any o.fr o.to w')
  generalize tagE 18 o.tag = tc at HTG
  generalize (normS (normGoR [] (codes o.plt))).1 = ns at HNR
  generalize (normS (normGoR [] (codes o.plt))).2 = nc at HNR
  generalize validI o.fr o.to = sp at HSP
  obtain ⟨x0, x1, x2, x3⟩ := blk4 n0
  obtain ⟨p1, h1⟩ : ∃ p, o.tag.toList.isEmpty = p := ⟨_, rfl⟩
  obtain ⟨p2, h2⟩ : ∃ p, o.plt.toList.isEmpty = p := ⟨_, rfl⟩
  obtain ⟨p3, h3⟩ : ∃ p, (tc != 0) = p := ⟨_, rfl⟩
  obtain ⟨p4, h4⟩ : ∃ p, (nc != 0) = p := ⟨_, rfl⟩
  obtain ⟨p5, h5⟩ : ∃ p, (ns.toList == o.plt.toList) = p := ⟨_, rfl⟩
  clear n0 hp
  go_enter Tryz.func101, Tryz.ntmps101
  cases p1 with
  | true =>
    clear h3
    cases p2 with
    | true =>
      clear h4 h5
      go_wp2_with (first
                   | (go_at_call 131
                      with_reducible refine (HTG.out _).mono ?_
                      rintro e w3 ⟨rfl, hb3⟩
                      have HB3 := Lib.hid (bl_trans HB2.out hb3)
                      have HN3 := Lib.hid ((hb3.block _ (lt_of_heap HN2.out)).trans HN2.out)
                      clear hb3 x0 x1 x2 x3 HB2 HN2
                      have HB2 := HB3
                      have HN2 := HN3
                      clear HB3 HN3
                      obtain ⟨x0, x1, x2, x3⟩ := blk4 HN2.out)
                   | (go_at_call 132
                      with_reducible refine (HNR.out _).mono ?_
                      rintro e w4 ⟨rfl, hb4⟩
                      have HB3 := Lib.hid (bl_trans HB2.out hb4)
                      have HN3 := Lib.hid ((hb4.block _ (lt_of_heap HN2.out)).trans HN2.out)
                      clear hb4 x0 x1 x2 x3 HB2 HN2
                      have HB2 := HB3
                      have HN2 := HN3
                      clear HB3 HN3
                      obtain ⟨x0, x1, x2, x3⟩ := blk4 HN2.out)
                   | (go_at_call 133
                      with_reducible refine (HSP.out _).mono ?_
                      rintro e w5 ⟨rfl, hb5⟩
                      have HB3 := Lib.hid (bl_trans HB2.out hb5)
                      clear hb5 HB2
                      have HB2 := HB3
                      clear HB3))
      go_ret
      exact ⟨⟨_, rfl, fun _ => trivial⟩, HB2.out⟩
    | false =>
      cases p4 with
      | true =>
        clear h5
        go_wp2_with (first
                     | (go_at_call 131
                        with_reducible refine (HTG.out _).mono ?_
                        rintro e w3 ⟨rfl, hb3⟩
                        have HB3 := Lib.hid (bl_trans HB2.out hb3)
                        have HN3 := Lib.hid ((hb3.block _ (lt_of_heap HN2.out)).trans HN2.out)
                        clear hb3 x0 x1 x2 x3 HB2 HN2
                        have HB2 := HB3
                        have HN2 := HN3
                        clear HB3 HN3
                        obtain ⟨x0, x1, x2, x3⟩ := blk4 HN2.out)
                     | (go_at_call 132
                        with_reducible refine (HNR.out _).mono ?_
                        rintro e w4 ⟨rfl, hb4⟩
                        have HB3 := Lib.hid (bl_trans HB2.out hb4)
                        have HN3 := Lib.hid ((hb4.block _ (lt_of_heap HN2.out)).trans HN2.out)
                        clear hb4 x0 x1 x2 x3 HB2 HN2
                        have HB2 := HB3
                        have HN2 := HN3
                        clear HB3 HN3
                        obtain ⟨x0, x1, x2, x3⟩ := blk4 HN2.out)
                     | (go_at_call 133
                        with_reducible refine (HSP.out _).mono ?_
                        rintro e w5 ⟨rfl, hb5⟩
                        have HB3 := Lib.hid (bl_trans HB2.out hb5)
                        clear hb5 HB2
                        have HB2 := HB3
                        clear HB3))
        go_ret
        exact ⟨⟨_, rfl, fun _ => trivial⟩, HB2.out⟩
      | false =>
        cases p5 with
        | false => go_wp2_with (first
                                | (go_at_call 131
                                   with_reducible refine (HTG.out _).mono ?_
                                   rintro e w3 ⟨rfl, hb3⟩
                                   have HB3 := Lib.hid (bl_trans HB2.out hb3)
                                   have HN3 := Lib.hid ((hb3.block _ (lt_of_heap HN2.out)).trans HN2.out)
                                   clear hb3 x0 x1 x2 x3 HB2 HN2
                                   have HB2 := HB3
                                   have HN2 := HN3
                                   clear HB3 HN3
                                   obtain ⟨x0, x1, x2, x3⟩ := blk4 HN2.out)
                                | (go_at_call 132
                                   with_reducible refine (HNR.out _).mono ?_
                                   rintro e w4 ⟨rfl, hb4⟩
                                   have HB3 := Lib.hid (bl_trans HB2.out hb4)
                                   have HN3 := Lib.hid ((hb4.block _ (lt_of_heap HN2.out)).trans HN2.out)
                                   clear hb4 x0 x1 x2 x3 HB2 HN2
                                   have HB2 := HB3
                                   have HN2 := HN3
                                   clear HB3 HN3
                                   obtain ⟨x0, x1, x2, x3⟩ := blk4 HN2.out)
                                | (go_at_call 133
                                   with_reducible refine (HSP.out _).mono ?_
                                   rintro e w5 ⟨rfl, hb5⟩
                                   have HB3 := Lib.hid (bl_trans HB2.out hb5)
                                   clear hb5 HB2
                                   have HB2 := HB3
                                   clear HB3))
                   go_ret
                   exact ⟨⟨_, rfl, fun _ => trivial⟩, HB2.out⟩
        | true =>
          cases sp with
          | true => go_wp2_with (first
                                 | (go_at_call 131
                                    with_reducible refine (HTG.out _).mono ?_
                                    rintro e w3 ⟨rfl, hb3⟩
                                    have HB3 := Lib.hid (bl_trans HB2.out hb3)
                                    have HN3 := Lib.hid ((hb3.block _ (lt_of_heap HN2.out)).trans HN2.out)
                                    clear hb3 x0 x1 x2 x3 HB2 HN2
                                    have HB2 := HB3
                                    have HN2 := HN3
                                    clear HB3 HN3
                                    obtain ⟨x0, x1, x2, x3⟩ := blk4 HN2.out)
                                 | (go_at_call 132
                                    with_reducible refine (HNR.out _).mono ?_
                                    rintro e w4 ⟨rfl, hb4⟩
                                    have HB3 := Lib.hid (bl_trans HB2.out hb4)
                                    have HN3 := Lib.hid ((hb4.block _ (lt_of_heap HN2.out)).trans HN2.out)
                                    clear hb4 x0 x1 x2 x3 HB2 HN2
                                    have HB2 := HB3
                                    have HN2 := HN3
                                    clear HB3 HN3
                                    obtain ⟨x0, x1, x2, x3⟩ := blk4 HN2.out)
                                 | (go_at_call 133
                                    with_reducible refine (HSP.out _).mono ?_
                                    rintro e w5 ⟨rfl, hb5⟩
                                    have HB3 := Lib.hid (bl_trans HB2.out hb5)
                                    clear hb5 HB2
                                    have HB2 := HB3
                                    clear HB3))
                    go_ret
                    exact ⟨⟨_, rfl, fun _ => trivial⟩, HB2.out⟩
          | false => go_wp2_with (first
                                  | (go_at_call 131
                                     with_reducible refine (HTG.out _).mono ?_
                                     rintro e w3 ⟨rfl, hb3⟩
                                     have HB3 := Lib.hid (bl_trans HB2.out hb3)
                                     have HN3 := Lib.hid ((hb3.block _ (lt_of_heap HN2.out)).trans HN2.out)
                                     clear hb3 x0 x1 x2 x3 HB2 HN2
                                     have HB2 := HB3
                                     have HN2 := HN3
                                     clear HB3 HN3
                                     obtain ⟨x0, x1, x2, x3⟩ := blk4 HN2.out)
                                  | (go_at_call 132
                                     with_reducible refine (HNR.out _).mono ?_
                                     rintro e w4 ⟨rfl, hb4⟩
                                     have HB3 := Lib.hid (bl_trans HB2.out hb4)
                                     have HN3 := Lib.hid ((hb4.block _ (lt_of_heap HN2.out)).trans HN2.out)
                                     clear hb4 x0 x1 x2 x3 HB2 HN2
                                     have HB2 := HB3
                                     have HN2 := HN3
                                     clear HB3 HN3
                                     obtain ⟨x0, x1, x2, x3⟩ := blk4 HN2.out)
                                  | (go_at_call 133
                                     with_reducible refine (HSP.out _).mono ?_
                                     rintro e w5 ⟨rfl, hb5⟩
                                     have HB3 := Lib.hid (bl_trans HB2.out hb5)
                                     clear hb5 HB2
                                     have HB2 := HB3
                                     clear HB3))
                     go_ret
                     exact ⟨⟨_, rfl, fun _ => trivial⟩, HB2.out⟩
  | false =>
    cases p2 with
    | false =>
      clear h3 h4 h5
      go_wp2_with (first
                   | (go_at_call 131
                      with_reducible refine (HTG.out _).mono ?_
                      rintro e w3 ⟨rfl, hb3⟩
                      have HB3 := Lib.hid (bl_trans HB2.out hb3)
                      have HN3 := Lib.hid ((hb3.block _ (lt_of_heap HN2.out)).trans HN2.out)
                      clear hb3 x0 x1 x2 x3 HB2 HN2
                      have HB2 := HB3
                      have HN2 := HN3
                      clear HB3 HN3
                      obtain ⟨x0, x1, x2, x3⟩ := blk4 HN2.out)
                   | (go_at_call 132
                      with_reducible refine (HNR.out _).mono ?_
                      rintro e w4 ⟨rfl, hb4⟩
                      have HB3 := Lib.hid (bl_trans HB2.out hb4)
                      have HN3 := Lib.hid ((hb4.block _ (lt_of_heap HN2.out)).trans HN2.out)
                      clear hb4 x0 x1 x2 x3 HB2 HN2
                      have HB2 := HB3
                      have HN2 := HN3
                      clear HB3 HN3
                      obtain ⟨x0, x1, x2, x3⟩ := blk4 HN2.out)
                   | (go_at_call 133
                      with_reducible refine (HSP.out _).mono ?_
                      rintro e w5 ⟨rfl, hb5⟩
                      have HB3 := Lib.hid (bl_trans HB2.out hb5)
                      clear hb5 HB2
                      have HB2 := HB3
                      clear HB3))
      go_ret
      exact ⟨⟨_, rfl, fun _ => trivial⟩, HB2.out⟩
    | true =>
      clear h4 h5
      cases p3 with
      | true => go_wp2_with (first
                             | (go_at_call 131
                                with_reducible refine (HTG.out _).mono ?_
                                rintro e w3 ⟨rfl, hb3⟩
                                have HB3 := Lib.hid (bl_trans HB2.out hb3)
                                have HN3 := Lib.hid ((hb3.block _ (lt_of_heap HN2.out)).trans HN2.out)
                                clear hb3 x0 x1 x2 x3 HB2 HN2
                                have HB2 := HB3
                                have HN2 := HN3
                                clear HB3 HN3
                                obtain ⟨x0, x1, x2, x3⟩ := blk4 HN2.out)
                             | (go_at_call 132
                                with_reducible refine (HNR.out _).mono ?_
                                rintro e w4 ⟨rfl, hb4⟩
                                have HB3 := Lib.hid (bl_trans HB2.out hb4)
                                have HN3 := Lib.hid ((hb4.block _ (lt_of_heap HN2.out)).trans HN2.out)
                                clear hb4 x0 x1 x2 x3 HB2 HN2
                                have HB2 := HB3
                                have HN2 := HN3
                                clear HB3 HN3
                                obtain ⟨x0, x1, x2, x3⟩ := blk4 HN2.out)
                             | (go_at_call 133
                                with_reducible refine (HSP.out _).mono ?_
                                rintro e w5 ⟨rfl, hb5⟩
                                have HB3 := Lib.hid (bl_trans HB2.out hb5)
                                clear hb5 HB2
                                have HB2 := HB3
                                clear HB3))
                go_ret
                exact ⟨⟨_, rfl, fun _ => trivial⟩, HB2.out⟩
      | false =>
        cases sp with
        | true => go_wp2_with (first
                               | (go_at_call 131
                                  with_reducible refine (HTG.out _).mono ?_
                                  rintro e w3 ⟨rfl, hb3⟩
                                  have HB3 := Lib.hid (bl_trans HB2.out hb3)
                                  have HN3 := Lib.hid ((hb3.block _ (lt_of_heap HN2.out)).trans HN2.out)
                                  clear hb3 x0 x1 x2 x3 HB2 HN2
                                  have HB2 := HB3
                                  have HN2 := HN3
                                  clear HB3 HN3
                                  obtain ⟨x0, x1, x2, x3⟩ := blk4 HN2.out)
                               | (go_at_call 132
                                  with_reducible refine (HNR.out _).mono ?_
                                  rintro e w4 ⟨rfl, hb4⟩
                                  have HB3 := Lib.hid (bl_trans HB2.out hb4)
                                  have HN3 := Lib.hid ((hb4.block _ (lt_of_heap HN2.out)).trans HN2.out)
                                  clear hb4 x0 x1 x2 x3 HB2 HN2
                                  have HB2 := HB3
                                  have HN2 := HN3
                                  clear HB3 HN3
                                  obtain ⟨x0, x1, x2, x3⟩ := blk4 HN2.out)
                               | (go_at_call 133
                                  with_reducible refine (HSP.out _).mono ?_
                                  rintro e w5 ⟨rfl, hb5⟩
                                  have HB3 := Lib.hid (bl_trans HB2.out hb5)
                                  clear hb5 HB2
                                  have HB2 := HB3
                                  clear HB3))
                  go_ret
                  exact ⟨⟨_, rfl, fun _ => trivial⟩, HB2.out⟩
        | false => go_wp2_with (first
                                | (go_at_call 131
                                   with_reducible refine (HTG.out _).mono ?_
                                   rintro e w3 ⟨rfl, hb3⟩
                                   have HB3 := Lib.hid (bl_trans HB2.out hb3)
                                   have HN3 := Lib.hid ((hb3.block _ (lt_of_heap HN2.out)).trans HN2.out)
                                   clear hb3 x0 x1 x2 x3 HB2 HN2
                                   have HB2 := HB3
                                   have HN2 := HN3
                                   clear HB3 HN3
                                   obtain ⟨x0, x1, x2, x3⟩ := blk4 HN2.out)
                                | (go_at_call 132
                                   with_reducible refine (HNR.out _).mono ?_
                                   rintro e w4 ⟨rfl, hb4⟩
                                   have HB3 := Lib.hid (bl_trans HB2.out hb4)
                                   have HN3 := Lib.hid ((hb4.block _ (lt_of_heap HN2.out)).trans HN2.out)
                                   clear hb4 x0 x1 x2 x3 HB2 HN2
                                   have HB2 := HB3
                                   have HN2 := HN3
                                   clear HB3 HN3
                                   obtain ⟨x0, x1, x2, x3⟩ := blk4 HN2.out)
                                | (go_at_call 133
                                   with_reducible refine (HSP.out _).mono ?_
                                   rintro e w5 ⟨rfl, hb5⟩
                                   have HB3 := Lib.hid (bl_trans HB2.out hb5)
                                   clear hb5 HB2
                                   have HB2 := HB3
                                   clear HB3))
                   go_ret
                   exact ⟨⟨_, rfl, fun _ => trivial⟩, HB2.out⟩
end Go.Proofs.YtifcelebfagjbaaGreatDoor
