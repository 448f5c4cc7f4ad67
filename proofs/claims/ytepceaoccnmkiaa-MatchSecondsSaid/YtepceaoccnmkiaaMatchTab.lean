/-
  Layer 6 (match): the walks of the table's small methods: allowed, step, choices.
-/
import Derived.Test.YtepceaoccnmkiaaMatchTotR
import Derived.Laws.BitsLemmas
namespace Go.Tw.Match
open Go.RowKit
theorem wraps_i64 (n : Int) (h₀ : 0 ≤ n) (h₁ : n < 2 ^ 62) : IntKind.i64.wrap n = n := by
  have e : (2 : Int) ^ 62 = 4611686018427387904 := by decide
  rw [e] at h₁
  exact wrap_in (by omega) (by omega)
theorem and_one {n : Nat} (h : n < 256) : bits .and .i64 (n : Int) 1 = ((n % 2 : Nat) : Int) := by
  have := (bits_nat .i64 62 (by decide) wraps_i64 n 1 (Nat.lt_of_lt_of_le h (by decide)) (by decide)).1
  rw [Nat.and_one_is_mod] at this
  simpa using this
theorem bit_test {mask : Nat} (hm : mask < 256) {j : Int} (hj : 0 ≤ j) : (bits .and .i64 ((mask : Int) / 2 ^ j.toNat) 1 == 0) = !mask.testBit j.toNat := by
  have e : (mask : Int) / 2 ^ j.toNat = ((mask / 2 ^ j.toNat : Nat) : Int) := by simp
  rw [e, and_one (Nat.lt_of_le_of_lt (Nat.div_le_self _ _) hm), Nat.testBit_eq_decide_div_mod_eq, Bool.eq_iff_iff]
  simp
  omega
theorem or_test {mask : Nat} (hm : mask < 256) {j : Int} (hj : 0 ≤ j) (hj8 : j < 8) : bits .or .i64 (mask : Int) (2 ^ j.toNat) = ((nxt mask j : Nat) : Int) := by
  have h2 : 2 ^ j.toNat < 2 ^ 62 := Nat.pow_lt_pow_right (by decide) (by omega)
  have := (bits_nat .i64 62 (by decide) wraps_i64 mask (2 ^ j.toNat) (Nat.lt_of_lt_of_le hm (by decide)) h2).2
  unfold nxt
  rw [if_neg (by omega), Nat.one_shiftLeft, ← this]
  simp
theorem okF_two {F : List Int} {i : Nat} {j : Int} (h : i < F.length) : (okF F i j = true ∧ (F[i] != -2) = false) ∨ (okF F i j = true ∧ (F[i] != -2) = true ∧ (F[i] != j) = false) ∨ (okF F i j = false ∧ (F[i] != -2) = true ∧ (F[i] != j) = true) := by
  unfold okF
  rw [List.getD_eq_getElem?_getD, List.getElem?_eq_getElem h, Option.getD_some]
  by_cases a : F[i] = -2
  · exact .inl ⟨by simp [a], by rw [bne_eq_false_iff_eq]; exact a⟩
  · by_cases b : F[i] = j
    · exact .inr (.inl ⟨by rw [decide_eq_true b]; simp, by rw [bne_iff_ne]; exact a, by rw [bne_eq_false_iff_eq]; exact b⟩)
    · exact .inr (.inr ⟨by rw [decide_eq_false a, decide_eq_false b]; rfl, by rw [bne_iff_ne]; exact a, by rw [bne_iff_ne]; exact b⟩)
end Go.Tw.Match
namespace Go.Proofs.Ytepceaoccnmkiaa
open Go.RowKit Go.Tw Go.Tw.Match

/-- a table in block p: its cells -/
def TabB (w : World) (p : Nat) (vc vr vl vf vL vW : Value) : Prop := w.heap[p]? = some (.cells #[vc, vr, vl, vf, vL, vW] 57 (0, 0))
theorem blk6 {w : World} {g : Nat} {a b c d e f : Value} {t : TypeId} (h : w.heap[g]? = some (.cells #[a, b, c, d, e, f] t (0, 0))) : w.cell? ⟨g, 0, none⟩ = some a ∧ w.cell? ⟨g, 1, none⟩ = some b ∧ w.cell? ⟨g, 2, none⟩ = some c ∧ w.cell? ⟨g, 3, none⟩ = some d ∧ w.cell? ⟨g, 4, none⟩ = some e ∧ w.cell? ⟨g, 5, none⟩ = some f ∧ ∀ j, w.frozen? ⟨g, j, none⟩ = false := by
  have hf : ∀ j, w.frozen? ⟨g, j, none⟩ = false := fun j => by simp only [World.frozen?, h]; simp
  refine ⟨?_, ?_, ?_, ?_, ?_, ?_, hf⟩ <;> simp [World.cell?, h]
set_option maxRecDepth 100000 in
set_option maxHeartbeats 4000000 in
theorem allowed_any (m : Mat) (hok : Ok m) (F : List Int) (w0 w : World) (hb : Below w0.heap.size w0 w) (p : Nat) (ac : Option Addr) (cc bc oc : Nat) (ar : Option Addr) (cr br or : Nat) (al : Option Addr) (cl bl ol : Nat) (af : Option Addr) (cf bf of : Nat) (vL vW : Value)
                    (hm : MatAt w0 ac cc bc oc ar cr br or al cl bl ol m) (hF : IntsAt w0.heap.size w0 af bf of F) (hFl : F.length = m.row.length) (hcf : F.length ≤ cf) (hcf2 : cf ≤ 9223372036854775807)
                    (hp : TabB w p (.slice ac m.cost.length cc) (.slice ar m.row.length cr) (.slice al m.col.length cl) (.slice af F.length cf) vL vW)
    (i : Nat) (j : Int) (mask : Nat) (hi : i < m.row.length) (hj : -1 ≤ j) (hjc : j < m.col.length) (hmask : mask < 256) :
    Calls Try.prog 39 #[.pointer (some ⟨p, 0, none⟩), .int .i64 i, .int .i64 j, .int .i64 mask] w fun e w' => e = .returned (.bool (ok m F i j mask)) ∧ w = w' := by
  obtain ⟨x0, x1, x2, x3, x4, x5, xf⟩ := blk6 hp
  have hiF : i < F.length := by omega
  obtain ⟨rfl, hbF, y0, yr⟩ := hF _ hb i hiF
  have c8 := hok.c8
  have i0 : (0 : Int) ≤ (i : Int) := by omega
  have i1 : (i : Int) < (F.length : Int) := by omega
  have hpl := lt_of_heap hp
  have hff := okF_two (j := j) hiF
  have hway : (0 ≤ j ∧ (bits .and .i64 ((mask : Int) / 2 ^ j.toNat) 1 == 0) = false ∧ Hid (okJ m i j mask = false)) ∨ (0 ≤ j ∧ (bits .and .i64 ((mask : Int) / 2 ^ j.toNat) 1 == 0) = true ∧ Hid (okJ m i j mask = decide (0 ≤ price m i j))) ∨ (j < 0 ∧ Hid (okJ m i j mask = true)) := by
    by_cases q : j < 0
    · exact .inr (.inr ⟨q, by show okJ m i j mask = true; unfold okJ; simp [q]⟩)
    · have hb2 := bit_test hmask (show 0 ≤ j by omega)
      cases ht : mask.testBit j.toNat
      · rw [ht] at hb2
        exact .inr (.inl ⟨by omega, hb2, by show okJ m i j mask = _; unfold okJ; rw [ht, decide_eq_false q]; simp⟩)
      · rw [ht] at hb2
        exact .inl ⟨by omega, hb2, by show okJ m i j mask = _; unfold okJ; rw [ht, decide_eq_false q]; simp⟩
  have hOK : ∀ b, okF F i j = true → okJ m i j mask = b → ok m F i j mask = b := fun b h1 h2 => by unfold ok; rw [h1, h2]; simp
  have hNO : okF F i j = false → ok m F i j mask = false := fun h1 => by unfold ok; rw [h1]; simp
  have HOK := Lib.hid hOK
  have HNO := Lib.hid hNO
  have HM := Lib.hid hm
  clear hp hF hFl hOK hNO hm
  rcases hff with ⟨hf, q1⟩ | ⟨hf, q1, q2⟩ | ⟨hf, q1, q2⟩
  case inr.inr =>
    have HR := Lib.hid (HNO.out hf)
    clear hf hway
    go_enter Try.func39, Try.ntmps39
    go_wp2
    go_ret
    exact ⟨by rw [HR.out]; rfl, rfl⟩
  all_goals
    have HFF := Lib.hid hf
    clear hf
    rcases hway with ⟨h0, hb3, HJ⟩ | ⟨h0, hb3, HJ⟩ | ⟨hneg, HJ⟩
    · have HR := Lib.hid (HOK.out _ HFF.out HJ.out)
      have hnn : ¬ j < 0 := by omega
      go_enter Try.func39, Try.ntmps39
      go_wp2
      go_ret
      exact ⟨by rw [HR.out]; rfl, rfl⟩
    · have HR := Lib.hid (HOK.out _ HFF.out HJ.out)
      have hnn : ¬ j < 0 := by omega
      obtain ⟨h1, h2, hp⟩ := price_at hok hi h0 hjc
      have HP := Lib.hid hp
      obtain ⟨rfl, hbc, a1, c1, b1, o1, hcell, k1, k2, hints⟩ := HM.out.cost i h1
      have hcell0 := hcell _ hb
      obtain ⟨rfl, hb4, z0, -⟩ := hints _ hb j.toNat h2
      have cc2 := HM.out.cc2
      have cc1 := HM.out.cc1
      unfold maxLen at k2
      have i2 : (i : Int) < (m.cost.length : Int) := by omega
      have j1 : j < (m.cost[i].length : Int) := by omega
      clear hcell hints hp
      go_enter Try.func39, Try.ntmps39
      go_wp2
      all_goals
        go_ret
        exact ⟨by rw [HR.out, HP.out]; first | rfl | (simp; omega), rfl⟩
    · have HR := Lib.hid (HOK.out _ HFF.out HJ.out)
      go_enter Try.func39, Try.ntmps39
      go_wp2
      go_ret
      exact ⟨by rw [HR.out]; rfl, rfl⟩

set_option maxRecDepth 100000 in
set_option maxHeartbeats 4000000 in
theorem step_any (m : Mat) (hok : Ok m) (F : List Int) (w0 w : World) (hb : Below w0.heap.size w0 w) (p : Nat) (ac : Option Addr) (cc bc oc : Nat) (ar : Option Addr) (cr br or : Nat) (al : Option Addr) (cl bl ol : Nat) (af : Option Addr) (cf bf of : Nat) (vL vW : Value)
                 (hm : MatAt w0 ac cc bc oc ar cr br or al cl bl ol m) (hF : IntsAt w0.heap.size w0 af bf of F) (hFl : F.length = m.row.length) (hcf : F.length ≤ cf) (hcf2 : cf ≤ 9223372036854775807)
                 (hp : TabB w p (.slice ac m.cost.length cc) (.slice ar m.row.length cr) (.slice al m.col.length cl) (.slice af F.length cf) vL vW)
    (i : Nat) (j : Int) (mask : Nat) (hi : i < m.row.length) (hj : -1 ≤ j) (hjc : j < m.col.length) (hmask : mask < 256) :
    Calls Try.prog 40 #[.pointer (some ⟨p, 0, none⟩), .int .i64 i, .int .i64 j, .int .i64 mask] w fun e w' => e = .returned (.tuple #[.int .i64 (price m i j), .int .i64 (nxt mask j : Nat)]) ∧ ∃ n, w' = w.drewN n := by
  obtain ⟨x0, x1, x2, x3, x4, x5, xf⟩ := blk6 hp
  have c8 := hok.c8
  have i0 : (0 : Int) ≤ (i : Int) := by omega
  have hpl := lt_of_heap hp
  have cr1 := hm.cr1
  have cr2 := hm.cr2
  have cc1 := hm.cc1
  have cc2 := hm.cc2
  have HM := Lib.hid hm
  clear hp hF hFl hm
  by_cases hneg : j < 0
  · obtain ⟨rfl, hbr, z0, -⟩ := HM.out.row _ hb i hi
    have HP := Lib.hid (price_row hi hneg)
    have HN := Lib.hid (show nxt mask j = mask by unfold nxt; rw [if_pos hneg])
    have i1 : (i : Int) < (m.row.length : Int) := by omega
    go_enter Try.func40, Try.ntmps40
    go_wp2
    go_ret2
    exact ⟨by rw [HP.out, HN.out]; rfl, 0, rfl⟩
  · obtain ⟨h1, h2, hp⟩ := price_at hok hi (by omega) hjc
    have HP := Lib.hid hp
    obtain ⟨rfl, hbc, a1, c1, b1, o1, hcell, k1, k2, hints⟩ := HM.out.cost i h1
    have hcell0 := hcell _ hb
    obtain ⟨rfl, hb4, z0, -⟩ := hints _ hb j.toNat h2
    unfold maxLen at k2
    have i2 : (i : Int) < (m.cost.length : Int) := by omega
    have j0 : 0 ≤ j := by omega
    have j1 : j < (m.cost[i].length : Int) := by omega
    have j8 : j ≤ 64 := by omega
    have HO := Lib.hid (show bits .or .i64 (mask : Int) (wrap64 (2 ^ j.toNat)) = ((nxt mask j : Nat) : Int) by
      have hw : wrap64 (2 ^ j.toNat) = 2 ^ j.toNat := by
        have h8 : j.toNat = 0 ∨ j.toNat = 1 ∨ j.toNat = 2 ∨ j.toNat = 3 ∨ j.toNat = 4 ∨ j.toNat = 5 ∨ j.toNat = 6 ∨ j.toNat = 7 := by omega
        rcases h8 with h | h | h | h | h | h | h | h <;> rw [h] <;> exact IntWalk.wrap64_in _ ⟨by decide, by decide⟩
      rw [hw]
      exact or_test hmask j0 (by omega))
    clear hcell hints hp
    go_enter Try.func40, Try.ntmps40
    go_wp2_with (go_quiet (fail))
    go_ret2
    exact ⟨by rw [HP.out]; exact congrArg (fun z => Ending.returned (.tuple #[.int .i64 m.cost[i][j.toNat], .int .i64 z])) HO.out, _, rfl⟩

/-- the choices, in a block of their own -/
def Chosen (c B : Nat) (w : World) (e : Ending) : Prop := ∃ g cap, e = .returned (.slice (some ⟨g, 0, none⟩) (c + 1) cap) ∧ c + 1 ≤ cap ∧ cap ≤ 9223372036854775807 ∧ B ≤ g ∧ Cells w g (choices c)
set_option maxRecDepth 100000 in
set_option maxHeartbeats 4000000 in
theorem choices_any (m : Mat) (hok : Ok m) (F : List Int) (w0 w : World) (hb : Below w0.heap.size w0 w) (p : Nat) (ac : Option Addr) (cc bc oc : Nat) (ar : Option Addr) (cr br or : Nat) (al : Option Addr) (cl bl ol : Nat) (af : Option Addr) (cf bf of : Nat) (vL vW : Value)
                    (hm : MatAt w0 ac cc bc oc ar cr br or al cl bl ol m) (hF : IntsAt w0.heap.size w0 af bf of F) (hFl : F.length = m.row.length) (hcf : F.length ≤ cf) (hcf2 : cf ≤ 9223372036854775807)
                    (hp : TabB w p (.slice ac m.cost.length cc) (.slice ar m.row.length cr) (.slice al m.col.length cl) (.slice af F.length cf) vL vW) :
    Calls Try.prog 38 #[.pointer (some ⟨p, 0, none⟩)] w fun e w' => Chosen m.col.length w.heap.size w' e ∧ Below w.heap.size w w' := by
  obtain ⟨x0, x1, x2, x3, x4, x5, xf⟩ := blk6 hp
  have c8 := hok.c8
  have hpl := lt_of_heap hp
  clear hp hF hFl hm hcf hcf2 hb
  go_enter Try.func38, Try.ntmps38
  go_wp2
  go_loopg [11, 3] m.col.length (fun g i v wr => ∃ k : Nat, k + g = m.col.length ∧ i = .int .i64 k ∧ OwnSl tInt 3 w.heap.size wr v (cols k) ∧ Below w.heap.size w wr)
  case atStart => exact ⟨0, by omega, rfl, OwnSl.nil _ _ _ _, Below.refl _ _⟩
  case round =>
    obtain ⟨k, hk, rfl, hown, hb1⟩ := hrel
    have HO := Lib.hid hown
    have HB := Lib.hid hb1
    have hsb := hb1.size
    have hlen : (cols k).length = k := by simp [cols]
    have HL := Lib.hid hlen
    clear hown hb1 hlen
    have k0 : (0 : Int) ≤ (k : Int) := by omega
    by_cases hlt : k < m.col.length
    · have k1 : (k : Int) < (m.col.length : Int) := by omega
      have HS := Lib.hid (show cols (k + 1) = cols k ++ [(k : Int)] by unfold cols; rw [List.range_succ, List.map_append]; rfl)
      go_wp2_with (
        at_builtin
        refine wpList_append_one (.tmp 14) (.tmp 16) rfl 23 rfl slInt rfl HO.out rfl (S := fun _ => False) ⟨rfl, by unfold i64ok; omega⟩ (fun _ h => h.elim) (by rw [HL.out]; omega) (by rw [HL.out]; unfold maxLen; omega) hsb ?_
        intro v' w2 ho2 hg2 hb2
        have HO2 := Lib.hid ho2
        have HB2 := Lib.hid hb2
        clear ho2 hg2 hb2)
      go_roundg (m.col.length - (k + 1))
      case measure => omega
      case rel => exact ⟨k + 1, by omega, by go_num, by rw [HS.out]; exact HO2.out, HB.out.trans HB2.out⟩
    · obtain rfl : k = m.col.length := by omega
      clear hlt hk
      go_wp2_with (
        at_builtin
        refine wpList_append_one (.tmp 19) (.tmp 20) rfl 23 rfl slInt rfl HO.out rfl (S := fun _ => False) (y := (-1 : Int)) ⟨rfl, by unfold i64ok; omega⟩ (fun _ h => h.elim) (by rw [HL.out]; omega) (by rw [HL.out]; unfold maxLen; omega) hsb ?_
        intro v' w2 ho2 hg2 hb2
        have HO2 := Lib.hid ho2
        have HB2 := Lib.hid hb2
        clear ho2 hg2 hb2)
      have HR := Lib.hid (show Chosen m.col.length w.heap.size w2 (.returned v') by
        rcases own_ints HO2.out with ⟨-, q⟩ | ⟨g, cap, rfl, h1, h2, h3, h4, -⟩
        · simp at q
        · have hl : (cols m.col.length ++ [(-1 : Int)]).length = m.col.length + 1 := by rw [List.length_append, HL.out]; rfl
          rw [hl] at h1 ⊢
          unfold maxLen at h2
          exact ⟨g, cap, rfl, h1, h2, h3, h4⟩)
      go_ret
      exact ⟨HR.out, HB.out.trans HB2.out⟩
end Go.Proofs.Ytepceaoccnmkiaa
