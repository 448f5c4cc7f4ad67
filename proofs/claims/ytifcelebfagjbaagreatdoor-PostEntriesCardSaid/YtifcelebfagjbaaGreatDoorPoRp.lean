/-
  Layer 01: the reference's Before; layer 07: HasText, Insert; layer 32: Accounts (some list of strings).
-/
import Derived.Test.YtifcelebfagjbaaGreatDoorMgN
import Derived.Test.YtifcelebfagjbaaGreatDoorMgS
import Derived.Test.YtifcelebfagjbaaGreatDoorMgJ
import Derived.Test.YtifcelebfagjbaaGreatDoorMgJ
import Derived.Test.YtifcelebfagjbaaGreatDoorMgN
import Derived.Laws.Strings2
import Derived.Test.YtifcelebfagjbaaGreatDoorMgO
import Derived.Test.YtifcelebfagjbaaGreatDoorLib
import Derived.Lib.QuietBelow
namespace Go.Proofs.YtifcelebfagjbaaGreatDoor
open Go.RowKit Go.Tw Go.Tw.Ord Go.Tw.Po Go.Sort
theorem gr_drewN {a : World} (n : Nat) : GrB a (a.drewN n) := ⟨n, #[], by rw [grow_empty]⟩
set_option maxRecDepth 100000 in
set_option maxHeartbeats 1000000 in
theorem Before_gr (s t : ByteArray) (w : World) (_hs : s.size ≤ maxLen) (ht : t.size ≤ maxLen) :
    Calls Tryz.prog 99 #[.string s, .string t] w fun e w' => e = .returned (.bool (ltL (codes s) (codes t))) ∧ GrB w w' := by
  unfold maxLen at _hs ht
  go_enter Tryz.func99, Tryz.ntmps99
  go_wp2
  go_loopg [5] s.size (fun g i wr => ∃ k : Nat, k + g = s.size ∧ k ≤ t.size ∧ i = .int .i64 k ∧ ltL (codes s) (codes t) = ltL ((codes s).drop k) ((codes t).drop k) ∧ ∃ n, wr = w.drewN n)
  case atStart => exact ⟨0, by omega, by omega, rfl, rfl, 0, rfl⟩
  case round =>
    obtain ⟨k, hk, hkt, rfl, he, n, rfl⟩ := hrel
    have HE := Lib.hid he; clear he
    by_cases h1 : k < s.size
    case neg =>
      have h1d : decide ((k : Int) < (s.size : Int)) = false := by simp; omega
      have HF := Lib.hid (ltL_end (a := codes s) (b := codes t) (k := k) (by rw [codes_len]; omega) (by rw [codes_len]; omega) (.inl (by rw [codes_len]; omega)))
      go_wp2
      go_ret
      exact ⟨ret_bool (by rw [HE.out, HF.out, codes_len, codes_len]), gr_drewN _⟩
    by_cases h2 : k < t.size
    case neg =>
      have HF := Lib.hid (ltL_end (a := codes s) (b := codes t) (k := k) (by rw [codes_len]; omega) (by rw [codes_len]; omega) (.inr (by rw [codes_len]; omega)))
      go_wp2
      go_ret
      exact ⟨ret_bool (by rw [HE.out, HF.out, codes_len, codes_len]), gr_drewN _⟩
    have k0 : (0 : Int) ≤ (k : Int) := by omega
    have k1 : (k : Int) < (s.size : Int) := by omega
    have k2 : (k : Int) < (t.size : Int) := by omega
    have HD := Lib.hid (ltL_drop (a := codes s) (b := codes t) (k := k) (by rw [codes_len]; exact h1) (by rw [codes_len]; exact h2))
    rw [codes_get s h1, codes_get t h2] at HD
    rcases Bool.eq_false_or_eq_true ((s[k].toNat : Int) == (t[k].toNat : Int)) with heq | heq
    · have HQ := Lib.hid (show (s[k].toNat : Int) = (t[k].toNat : Int) by simpa using heq)
      have hne : ((s[k].toNat : Int) != (t[k].toNat : Int)) = false := by simp [bne, heq]
      go_wp2_with (go_quiet (fail))
      go_roundg (s.size - (k + 1))
      case measure => omega
      case rel => exact ⟨k + 1, by omega, by omega, by go_num, by rw [HE.out, HD.out, if_pos HQ.out], _, rfl⟩
    · have HQ := Lib.hid (show ¬ (s[k].toNat : Int) = (t[k].toNat : Int) by simpa using heq)
      have hne : ((s[k].toNat : Int) != (t[k].toNat : Int)) = true := by simp [bne, heq]
      go_wp2_with (go_quiet (fail))
      go_ret
      exact ⟨ret_bool (by rw [HE.out, HD.out, if_neg HQ.out]; simp), by rw [World.drewN_drewN, World.drewN_drewN]; exact gr_drewN _⟩
/-- some truth value, some number -/
def AnyB (e : Ending) : Prop := ∃ b, e = .returned (.bool b)
def AnyI (e : Ending) : Prop := ∃ n, e = .returned (.int .i64 n) ∧ i64ok n
theorem strs_open {S : Nat → Prop} {w : World} {v : Value} {l : List ByteArray} (h : SlIs tStr S w v l) :
    ∃ ao cap b off, v = .slice ao l.length cap ∧ l.length ≤ cap ∧ cap ≤ maxLen ∧ ∀ w', SameOn S w w' → ∀ k (_ : k < l.length), ao = some ⟨b, off, none⟩ ∧ S b ∧ b < w.heap.size ∧ w'.cell? ⟨b, off + k, none⟩ = some (.string l[k]) ∧ l[k].size ≤ maxLen := by
  obtain ⟨ao, cap, b, off, hv, h1, h2, h3⟩ := h.openS
  refine ⟨ao, cap, b, off, hv, h1, h2, fun w' hw k hk => ?_⟩
  obtain ⟨g1, g2, g2', cs, g3, ⟨rfl, g5⟩⟩ := h3 w' hw k hk
  have := g3 0 (by decide)
  simp [tStr] at this
  exact ⟨g1, g2, g2', this, g5⟩
theorem slStrR : SlT Tryz.prog 87 9 1 16 := SlT.of (z := .string ByteArray.empty) Tryz.underlying87 (by kernel_rfl) rfl (by decide)
set_option maxHeartbeats 1000000 in
theorem hasText_any (l : List ByteArray) (s : ByteArray) (v : Value) (w : World) (h : SlIs tStr (· < w.heap.size) w v l) :
    Calls Tryz.prog 57 #[v, .string s] w fun e w' => AnyB e ∧ Below w.heap.size w w' := by
  obtain ⟨ao, cap, b, off, rfl, hla, hma, ho⟩ := strs_open h
  unfold maxLen at hma
  have HO := Lib.hid ho
  clear h ho
  go_enter Tryz.func57, Tryz.ntmps57
  go_wp2
  go_loopg [5] l.length (fun g i wr => ∃ k : Nat, k + g = l.length ∧ i = .int .i64 k ∧ Below w.heap.size w wr)
  case atStart => exact ⟨0, by omega, rfl, Below.refl _ _⟩
  case round =>
    obtain ⟨k, hk, rfl, hb⟩ := hrel
    have HB := Lib.hid hb
    by_cases hlt : k < l.length
    · obtain ⟨rfl, -, hbk, hc, hsz⟩ := HO.out wr (.of_below hb) k hlt
      have k0 : (0 : Int) ≤ (k : Int) := by omega
      have k1 : (k : Int) < (l.length : Int) := by omega
      generalize l[k] = x at hc hsz
      clear hb
      obtain ⟨q, hq⟩ : ∃ q, (x.toList == s.toList) = q := ⟨_, rfl⟩
      cases q with
      | true =>
        go_wp2
        go_ret
        exact ⟨⟨_, rfl⟩, HB.out⟩
      | false =>
        go_wp2
        go_roundg (l.length - (k + 1))
        case measure => omega
        case rel => exact ⟨k + 1, by omega, by go_num, HB.out⟩
    · have hkd : decide ((k : Int) < (l.length : Int)) = false := by simp; omega
      go_wp2
      go_ret
      exact ⟨⟨_, rfl⟩, HB.out⟩
set_option maxRecDepth 100000 in
set_option maxHeartbeats 4000000 in
theorem insertR_any (l : List ByteArray) (s : ByteArray) (v : Value) (w : World) (h1 : SlIs tStr (· < w.heap.size) w v l) (hl : l.length ≤ 100000) (hs : s.size ≤ maxLen) :
    Calls Tryz.prog 58 #[v, .string s] w fun e w' => (∃ v', e = .returned v' ∧ ∃ O : List ByteArray, O.length ≤ l.length + 1 ∧ SlIs tStr (· < w'.heap.size) w' v' O) ∧ Below w.heap.size w w' := by
  have HS := Lib.hid h1
  obtain ⟨ao, cap, b, off, rfl, hla, hma, ho⟩ := strs_open h1
  unfold maxLen at hma
  have HO := Lib.hid ho
  have HSZ := Lib.hid hs
  clear h1 ho hs
  go_enter Tryz.func58, Tryz.ntmps58
  go_wp2
  go_loopg [5, 6, 7] l.length (fun gx vo vd i wo => ∃ (k : Nat) (d : Bool) (O : List ByteArray), k + gx = l.length ∧ vd = .bool d ∧ i = .int .i64 k ∧ Hid (O.length ≤ k + 1 ∧ (d = false → O.length ≤ k)) ∧ OwnSl tStr 9 w.heap.size wo vo O ∧ Below w.heap.size w wo)
  case atStart => exact ⟨0, false, [], by omega, rfl, rfl, Lib.hid ⟨by simp, fun _ => by simp⟩, OwnSl.nil _ _ _ _, Below.refl _ _⟩
  case round =>
    obtain ⟨wo, rfl⟩ : ∃ wo : World, wo = wr := ⟨_, rfl⟩
    obtain ⟨k, d, O, hk, rfl, rfl, HI0, hown, hb⟩ := hrel
    have hOl := HI0.out.1
    have HI := Lib.hid HI0.out.2
    clear HI0
    have HZ := Lib.hid hb.size
    have HB := Lib.hid hb
    have HOW := Lib.hid hown
    by_cases hlt : k < l.length
    · obtain ⟨rfl, -, hbk, hc, hsz⟩ := HO.out wo (.of_below hb) k hlt
      have HTK := Lib.hid (show l.take (k + 1) = l.take k ++ [l[k]] from List.take_succ_eq_append_getElem hlt)
      have HM := Lib.hid (show l[k] ∈ l from List.getElem_mem hlt)
      generalize l[k] = x at HTK hc hsz HM
      have HXZ := Lib.hid hsz
      have HC := Lib.hid (show ∀ w', Below wo.heap.size wo w' → w'.cell? ⟨b, off + k, none⟩ = some (.string x) from fun w' hw => (hw.cell (p := ⟨b, off + k, none⟩) (Nat.lt_of_lt_of_le hbk hb.size)).trans hc)
      have k0 : (0 : Int) ≤ (k : Int) := by omega
      have k1 : (k : Int) < (l.length : Int) := by omega
      have HBK := Lib.hid hbk
      clear hb hown hbk hsz
      by_cases hxs : x = s
      · have e1 : (x.toList == s.toList) = true := by rw [eq_str]; simpa using hxs
        have HXS := Lib.hid hxs
        clear hxs
        go_wp2
        go_ret
        exact ⟨⟨_, rfl, l, by omega, HS.out.step HB.out⟩, HB.out⟩
      · have e1 : (x.toList == s.toList) = false := by rw [eq_str]; simpa using hxs
        have HXS := Lib.hid hxs
        clear hxs
        cases d with
        | true =>
          go_wp2_with (first | (at_builtin
                                refine wpList_append_one (.tmp 35) (.tmp 40) rfl 87 rfl slStrR rfl HOW.out rfl (S := fun _ => False) (y := x) ⟨rfl, HXZ.out⟩ (fun _ h => h.elim) (by first | omega | (simp; omega)) (by unfold maxLen; first | omega | (simp; omega)) (by first | exact HZ.out | exact HZ2.out) ?_
                                intro v6 wv6 ho hg hb
                                have Hv6 := Lib.hid ho
                                have Bv6 := Lib.hid hb
                                have HZ2 := Lib.hid hb.size
                                clear ho hg hb))
          go_roundg (l.length - (k + 1))
          case measure => omega
          case rel => exact ⟨k + 1, true, O ++ [x], by omega, rfl, by go_num, Lib.hid ⟨by simp; omega, fun h => by simp at h⟩, Hv6.out, HB.out.trans Bv6.out⟩
        | false =>
          obtain ⟨c, hcc⟩ : ∃ c, ltL (codes s) (codes x) = c := ⟨_, rfl⟩
          have HBF := Lib.hid (Before_gr s x wo HSZ.out HXZ.out)
          rw [hcc] at HBF
          have HCC := Lib.hid hcc
          have c0 := HC.out wo (Below.refl _ _)
          clear hcc hc
          cases c with
          | true =>
            go_wp2_with (first
              | (go_at_call 99
                 with_reducible refine HBF.out.mono ?_
                 rintro e w1 ⟨rfl, hg1⟩
                 have HG1 := Lib.hid hg1.below
                 have c1 := HC.out w1 HG1.out
                 have HO1 := Lib.hid (HOW.out.below HG1.out)
                 have HZ1 := Lib.hid (Nat.le_trans HZ.out HG1.out.size)
                 have HC2 := Lib.hid (show ∀ w', Below w.heap.size w1 w' → w'.cell? ⟨b, off + k, none⟩ = some (.string x) from fun w' hw => (hw.cell (p := ⟨b, off + k, none⟩) HBK.out).trans (HC.out w1 HG1.out))
                 clear hg1 c0)
              | (at_builtin
                 refine wpList_append_one (.tmp 31) (.tmp 33) rfl 87 rfl slStrR rfl HO1.out rfl (S := fun _ => False) (y := s) ⟨rfl, HSZ.out⟩ (fun _ h => h.elim) (by omega) (by unfold maxLen; omega) HZ1.out ?_
                 intro v2 w2 ho2 hg2 hb2
                 have HO2 := Lib.hid ho2
                 have HB2 := Lib.hid (Below.trans (HB.out.trans (HG1.out.mono HZ.out)) hb2)
                 have c2 := HC2.out w2 hb2
                 clear ho2 hg2 hb2 c1)
              | (at_builtin
                 refine wpList_append_one (.tmp 35) (.tmp 40) rfl 87 rfl slStrR rfl HO2.out rfl (S := fun _ => False) (y := x) ⟨rfl, HXZ.out⟩ (fun _ h => h.elim) (by simp; omega) (by unfold maxLen; simp; omega) HB2.out.size ?_
                 intro v3 w3 ho3 hg3 hb3
                 have HO3 := Lib.hid ho3
                 have HB3 := Lib.hid (HB2.out.trans hb3)
                 clear ho3 hg3 hb3 c2))
            go_roundg (l.length - (k + 1))
            case measure => omega
            case rel => exact ⟨k + 1, true, (O ++ [s]) ++ [x], by omega, rfl, by go_num, Lib.hid ⟨by have := HI.out (by trivial); simp; omega, fun h => by simp at h⟩, HO3.out, HB3.out⟩
          | false =>
            go_wp2_with (first
              | (go_at_call 99
                 with_reducible refine HBF.out.mono ?_
                 rintro e w1 ⟨rfl, hg1⟩
                 have HG1 := Lib.hid hg1.below
                 have c1 := HC.out w1 HG1.out
                 have HO1 := Lib.hid (HOW.out.below HG1.out)
                 have HZ1 := Lib.hid (Nat.le_trans HZ.out HG1.out.size)
                 clear hg1 c0)
              | (at_builtin
                 refine wpList_append_one (.tmp 35) (.tmp 40) rfl 87 rfl slStrR rfl HO1.out rfl (S := fun _ => False) (y := x) ⟨rfl, HXZ.out⟩ (fun _ h => h.elim) (by omega) (by unfold maxLen; omega) HZ1.out ?_
                 intro v3 w3 ho3 hg3 hb3
                 have HO3 := Lib.hid ho3
                 have HB3 := Lib.hid (Below.trans (HB.out.trans (HG1.out.mono HZ.out)) hb3)
                 clear ho3 hg3 hb3 c1))
            go_roundg (l.length - (k + 1))
            case measure => omega
            case rel => exact ⟨k + 1, false, O ++ [x], by omega, rfl, by go_num, Lib.hid ⟨by simp; omega, fun _ => by have := HI.out (by trivial); simp; omega⟩, HO3.out, HB3.out⟩
    · obtain rfl : k = l.length := by omega
      have hkl : ¬ (l.length : Int) < (l.length : Int) := by omega
      clear hlt hk hb hown
      cases d with
      | true =>
        go_wp2
        go_ret
        exact ⟨⟨_, rfl, O, hOl, HOW.out.sl⟩, HB.out⟩
      | false =>
        have Q3 := Lib.hid (show (O ++ [s]).length ≤ l.length + 1 from by have := HI.out (by trivial); simp; omega)
        go_wp2_with (first
          | (at_builtin
             refine wpList_append_one (.tmp 44) (.tmp 46) rfl 87 rfl slStrR rfl HOW.out rfl (S := fun _ => False) (y := s) ⟨rfl, HSZ.out⟩ (fun _ h => h.elim) (by omega) (by unfold maxLen; omega) HZ.out ?_
             intro v3 w3 ho3 hg3 hb3
             have HO3 := Lib.hid ho3
             have HB3 := Lib.hid (HB.out.trans hb3)
             clear ho3 hg3 hb3))
        go_ret
        exact ⟨⟨_, rfl, _, Q3.out, HO3.out.sl⟩, HB3.out⟩
set_option maxRecDepth 100000 in
set_option maxHeartbeats 4000000 in
theorem accountsR_any (l : List Ent) (v : Value) (w : World) (h : SlIs (tEnt 101) (· < w.heap.size) w v l) (hl : l.length ≤ 1000) (hps : ∀ x ∈ l, x.ps.length ≤ 8) :
    Calls Tryz.prog 25 #[.agg #[v]] w fun e w' => (∃ v' O, e = .returned v' ∧ SlIs tStr (· < w'.heap.size) w' v' O) ∧ Below w.heap.size w w' := by
  have HB := Lib.hid (bl_alloc (Below.refl w.heap.size w) (.cells #[v] 68))
  have n0 := alloc1_0 w (.cells #[v] 68)
  obtain ⟨ao, cap, bi, off, rfl, h1, h2, ho⟩ := ent_open h
  unfold maxLen at h2
  have HO := Lib.hid ho
  have HN := Lib.hid n0
  have HPS := Lib.hid hps
  clear h ho n0 hps
  go_enter Tryz.func25, Tryz.ntmps25
  go_upto_region 1 with (fail)
  generalize w.alloc (.cells #[.slice ao l.length cap] 68) = w0 at HB HN ⊢
  have hl0 := lt_of_heap HN.out
  go_wp2
  go_loopg [3, 4] l.length (fun g ov i wr => ∃ (k : Nat) (O : List ByteArray), k + g = l.length ∧ i = .int .i64 k ∧ SlIs tStr (· < wr.heap.size) wr ov O ∧ O.length ≤ 8 * k ∧ Hid (Below w0.heap.size w0 wr))
  case atStart => exact ⟨0, [], by omega, rfl, SlIs.nil, by simp, Lib.hid (Below.refl _ _)⟩
  case round =>
    obtain ⟨k, O, hk, rfl, hso, hol, HBW⟩ := hrel
    have HWW := Lib.hid (bl_trans HB.out HBW.out)
    obtain ⟨oa, oc, _, _, rfl, -⟩ := id hso
    have HSO := Lib.hid hso
    have d0 : wr.cell? ⟨w.heap.size, 0, none⟩ = some (.slice ao l.length cap) := cell_of_row _ _ 0 _ _ _ ((HBW.out.block _ hl0).trans HN.out)
    clear hso
    by_cases hlt : k < l.length
    · obtain ⟨rfl, -, hbi, hok, hv, hsl, c0, c1, c2⟩ := HO.out wr (.of_below HWW.out) k hlt
      have hp8 := HPS.out _ (List.getElem_mem hlt)
      have k0 : (0 : Int) ≤ (k : Int) := by omega
      have k1 : (k : Int) < (l.length : Int) := by omega
      generalize l[k] = y at *
      have hbk : bi < wr.heap.size := Nat.lt_of_lt_of_le hbi HWW.out.size
      have HC2 := Lib.hid (show ∀ w', Below wr.heap.size wr w' → w'.cell? ⟨bi, off + k * 3 + 2, none⟩ = some hv from fun w' hw => (hw.cell (p := ⟨bi, off + k * 3 + 2, none⟩) hbk).trans c2)
      have hsl2 : SlIs tSI (· < wr.heap.size) wr hv y.ps := hsl.keep (fun q (hq : q < w.heap.size) => Nat.lt_of_lt_of_le hq HWW.out.size) (SameOn.refl _ _)
      obtain ⟨a2, c2', b2, o2, rfl, h21, h22, ho2⟩ := si_open hsl2
      unfold maxLen at h22
      have HO2 := Lib.hid ho2
      have hlw : w.heap.size < wr.heap.size := by have := HBW.out.size; omega
      have HD0 := Lib.hid (show ∀ w', Below wr.heap.size wr w' → w'.cell? ⟨w.heap.size, 0, none⟩ = some (.slice (some ⟨bi, off, none⟩) l.length cap) from fun w' hw => (hw.cell (p := ⟨w.heap.size, 0, none⟩) hlw).trans d0)
      obtain ⟨wo, rfl⟩ : ∃ wo : World, wo = wr := ⟨_, rfl⟩
      clear hsl hsl2 ho2 hok c0 c1 c2
      go_wp2
      clear d0
      go_loopg [3, 5] y.ps.length (fun g ov i wr => ∃ (j : Nat) (U : List ByteArray), j + g = y.ps.length ∧ i = .int .i64 j ∧ SlIs tStr (· < wr.heap.size) wr ov U ∧ U.length ≤ 8 * k + j ∧ Hid (Below wo.heap.size wo wr))
      case atStart => exact ⟨0, O, by omega, rfl, HSO.out, by omega, Lib.hid (Below.refl _ _)⟩
      case round =>
        obtain ⟨j, U, hj, rfl, hsu, hul, HBV⟩ := hrel
        obtain ⟨ua, uc, _, _, rfl, -⟩ := id hsu
        have HSU := Lib.hid hsu
        clear hsu
        have d0 := HD0.out wr HBV.out
        have c2 := HC2.out wr HBV.out
        by_cases hlt2 : j < y.ps.length
        · obtain ⟨rfl, -, hb2, hop, e0, e1⟩ := HO2.out wr (.of_below HBV.out) j hlt2
          have j0 : (0 : Int) ≤ (j : Int) := by omega
          have j1 : (j : Int) < (y.ps.length : Int) := by omega
          have hsz := hop.s
          generalize y.ps[j] = p at *
          obtain ⟨xs, xn⟩ := p
          simp only at e0 hsz
          have HHT := Lib.hid (hasText_any U xs _ wr HSU.out)
          have hlwr : wo.heap.size ≤ wr.heap.size := HBV.out.size
          have HE0 := Lib.hid (show ∀ w', Below wr.heap.size wr w' → w'.cell? ⟨b2, o2 + j * 2, none⟩ = some (.string xs) from fun w' hw => (hw.cell (p := ⟨b2, o2 + j * 2, none⟩) (Nat.lt_of_lt_of_le hb2 hlwr)).trans e0)
          clear hop e1
          go_wp2_with (fail)
          with_reducible refine HHT.out.mono ?_
          clear HHT
          rintro r w5 ⟨⟨q, rfl⟩, hb5⟩
          have HB5 := Lib.hid hb5
          have HBV5 := Lib.hid (bl_trans HBV.out hb5)
          have HSU5 := Lib.hid (HSU.out.step hb5)
          clear hb5 d0 c2 e0
          have d0 := HD0.out w5 HBV5.out
          have c2 := HC2.out w5 HBV5.out
          have e0 := HE0.out w5 HB5.out
          cases q with
          | true =>
            go_wp2
            go_roundg (y.ps.length - (j + 1))
            case measure => omega
            case rel => exact ⟨j + 1, U, by omega, by go_num, HSU5.out, by omega, HBV5⟩
          | false =>
            have HIN := Lib.hid (insertR_any U xs _ w5 HSU5.out (by omega) hsz)
            go_wp2_with (fail)
            with_reducible refine HIN.out.mono ?_
            clear HIN
            rintro r w6 ⟨⟨v6, rfl, U6, hu6, hs6⟩, hb6⟩
            have HS6 := Lib.hid hs6
            have HB6 := Lib.hid (bl_trans HBV5.out hb6)
            clear hs6 hb6
            go_wp2
            go_roundg (y.ps.length - (j + 1))
            case measure => omega
            case rel => exact ⟨j + 1, U6, by omega, by go_num, HS6.out, by omega, HB6⟩
        · have hjd : decide ((j : Int) < (y.ps.length : Int)) = false := by simp; omega
          have HBO := Lib.hid (bl_trans HBW.out HBV.out)
          go_wp2
          go_roundg (l.length - (k + 1))
          case measure => omega
          case rel => exact ⟨k + 1, U, by omega, by go_num, HSU.out, by omega, HBO⟩
    · have hkd : decide ((k : Int) < (l.length : Int)) = false := by simp; omega
      go_wp2
      go_ret
      exact ⟨⟨_, O, rfl, HSO.out⟩, HWW.out⟩
end Go.Proofs.YtifcelebfagjbaaGreatDoor
