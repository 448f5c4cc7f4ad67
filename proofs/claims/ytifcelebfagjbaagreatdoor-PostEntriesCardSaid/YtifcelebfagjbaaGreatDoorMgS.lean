/-
  Layer 37 (post): the reference's ledger: Balance, fits, Copy.
-/
import Derived.Test.YtifcelebfagjbaaGreatDoorMgR
import Derived.Test.YtifcelebfagjbaaGreatDoorMgL
namespace Go.Tw.Po
open Go.RowKit Go.Tw Go.Sort Go.Tw.Ord
def balS (a : ByteArray) (l : List SI) : Int := sumL (l.filter fun p => decide (p.s = a))
theorem balS_snoc (a : ByteArray) (l : List SI) (p : SI) : balS a (l ++ [p]) = if p.s = a then balS a l + p.n else balS a l := by
  unfold balS
  rw [List.filter_append, sumL_app, List.filter_cons, List.filter_nil]
  by_cases h : p.s = a
  · rw [if_pos (by simpa using h), if_pos h]; simp [sumL]
  · rw [if_neg (by simpa using h), if_neg h]; simp [sumL]
end Go.Tw.Po
namespace Go.Proofs.YtifcelebfagjbaaGreatDoor
open Go.RowKit Go.Tw Go.Tw.Ord Go.Tw.Po Go.Sort
set_option maxRecDepth 100000 in
set_option maxHeartbeats 4000000 in
theorem balR_any (l : List Ent) (v : Value) (a : ByteArray) (w : World) (h : SlIs (tEnt 101) (· < w.heap.size) w v l) (hk : LOk 4004 l) :
    Calls Tryz.prog 26 #[.agg #[v], .string a] w fun e w' => e = .returned (.int .i64 (balL a l)) ∧ Below w.heap.size w w' := by
  obtain ⟨ao, cap, bi, off, rfl, hl, hm, ho⟩ := ent_open h
  unfold maxLen at hm
  have HO := Lib.hid ho
  have HF := Lib.hid hk
  have HBF := Lib.hid (bal_flat a l)
  have n0 := alloc1_0 w (.cells #[.slice ao l.length cap] 68)
  have HB := Lib.hid (bl_alloc (Below.refl w.heap.size w) (.cells #[.slice ao l.length cap] 68))
  have d0 : (w.alloc (.cells #[.slice ao l.length cap] 68)).cell? ⟨w.heap.size, 0, none⟩ = some (.slice ao l.length cap) := cell_of_row _ _ 0 _ _ _ n0
  clear h ho hk n0
  go_enter Tryz.func26, Tryz.ntmps26
  go_wp2
  generalize w.alloc (.cells #[.slice ao l.length cap] 68) = w0 at HB d0 ⊢
  go_loopg [5, 6] l.length (fun g n i wr => ∃ k : Nat, k + g = l.length ∧ i = .int .i64 k ∧ n = .int .i64 (balS a (posL (l.take k))) ∧ wr = w0)
  case atStart => exact ⟨0, by omega, rfl, rfl, rfl⟩
  case round =>
    obtain ⟨k, hk, rfl, rfl, rfl⟩ := hrel
    by_cases hlt : k < l.length
    · obtain ⟨rfl, -, hbi, hok, hv, hsl, c0, c1, c2⟩ := HO.out wr (.of_below HB.out) k hlt
      have k0 : (0 : Int) ≤ (k : Int) := by omega
      have k1 : (k : Int) < (l.length : Int) := by omega
      have HPT := Lib.hid (pos_take hlt)
      have HPS := Lib.hid (pos_split hlt)
      generalize l[k] = y at *
      obtain ⟨a2, c2', b2, o2, rfl, h21, h22, ho2⟩ := si_open hsl
      unfold maxLen at h22
      have HO2 := Lib.hid ho2
      obtain ⟨q, hq⟩ : ∃ q, posL (l.take k) = q := ⟨_, rfl⟩
      rw [hq] at HPT HPS ⊢
      have HL := Lib.hid (show q.length + y.ps.length ≤ 4004 ∧ Fit (q ++ y.ps) from by
        have h1 := HF.out.len
        have h2 := HF.out.fit
        rw [HPS.out] at h1 h2
        rw [List.length_append, List.length_append] at h1
        exact ⟨by omega, fun x hx => h2 x (by
          rw [← List.append_assoc]; exact List.mem_append_left _ hx)⟩)
      clear hq hsl ho2
      go_wp2
      go_loopg [5, 7] y.ps.length (fun g n i wr2 => ∃ j : Nat, j + g = y.ps.length ∧ i = .int .i64 j ∧ n = .int .i64 (balS a (q ++ y.ps.take j)) ∧ wr2 = wr)
      case atStart => exact ⟨0, by omega, rfl, by rw [List.take_zero, List.append_nil], rfl⟩
      case round =>
        obtain ⟨j, hj, rfl, rfl, rfl⟩ := hrel
        by_cases hlt2 : j < y.ps.length
        · obtain ⟨rfl, -, hb2, hop, e0, e1⟩ := HO2.out wr (SameOn.refl _ _) j hlt2
          have j0 : (0 : Int) ≤ (j : Int) := by omega
          have j1 : (j : Int) < (y.ps.length : Int) := by omega
          have HPJ := Lib.hid (show balS a (q ++ y.ps.take (j + 1)) = if y.ps[j].s = a then balS a (q ++ y.ps.take j) + y.ps[j].n else balS a (q ++ y.ps.take j) by rw [List.take_succ_eq_append_getElem hlt2, ← List.append_assoc, balS_snoc])
          have hb0 := bal_bound (l := q ++ y.ps.take j) (fun x hx => HL.out.2 x (by
            rcases List.mem_append.1 hx with hx | hx
            · exact List.mem_append_left _ hx
            · exact List.mem_append_right _ (List.mem_of_mem_take hx))) a
          have hbl2 : (q ++ y.ps.take j).length ≤ 4004 := by rw [List.length_append, List.length_take]; have := HL.out.1; omega
          have hfp := fitsM_iff.1 (HL.out.2 y.ps[j] (List.mem_append_right _ (List.getElem_mem hlt2)))
          generalize y.ps[j] = p at *
          change -1125899906842624 * _ ≤ balS a (q ++ y.ps.take j) ∧ balS a (q ++ y.ps.take j) ≤ _ at hb0
          generalize balS a (q ++ y.ps.take j) = c at *
          obtain ⟨xs, xn⟩ := p
          simp only at *
          have hwr : IntKind.i64.wrap (c + xn) = c + xn := wrap_in (by omega) (by omega)
          clear hb0 hop hbl2 hfp
          obtain ⟨b, hb⟩ : ∃ b, (xs.toList == a.toList) = b := ⟨_, rfl⟩
          have HBB := Lib.hid (show decide (xs = a) = b by rw [← hb, eq_str])
          cases b with
          | true =>
            have HXA := Lib.hid (show xs = a by simpa using HBB.out)
            go_wp2
            go_roundg (y.ps.length - (j + 1))
            case measure => omega
            case rel => exact ⟨j + 1, by omega, by go_num, by rw [HPJ.out, if_pos HXA.out], rfl⟩
          | false =>
            have HXA := Lib.hid (show ¬ xs = a by simpa using HBB.out)
            go_wp2
            go_roundg (y.ps.length - (j + 1))
            case measure => omega
            case rel => exact ⟨j + 1, by omega, by go_num, by rw [HPJ.out, if_neg HXA.out], rfl⟩
        · have hjd : decide ((j : Int) < (y.ps.length : Int)) = false := by simp; omega
          rw [show y.ps.take j = y.ps from List.take_of_length_le (by omega)]
          go_wp2
          go_roundg (l.length - (k + 1))
          case measure => omega
          case rel => exact ⟨k + 1, by omega, by go_num, by rw [HPT.out], rfl⟩
    · have hkd : decide ((k : Int) < (l.length : Int)) = false := by simp; omega
      rw [show l.take k = l from List.take_of_length_le (by omega)]
      go_wp2
      go_ret
      exact ⟨ret_int HBF.out, HB.out⟩
end Go.Proofs.YtifcelebfagjbaaGreatDoor
