/-
  Layer 16 (fuse): slices.Compact of sources, in a slice of the call's own.
-/
import Derived.Test.YtelnnjofccldgaaGreatDoorFuE
import Derived.Test.YtelnnjofccldgaaGreatDoorAgg
namespace Go.Tw.Fu
open Go.RowKit Go.Tw Go.Tw.Ps
theorem Off.drewN {g : Nat} {w wr : World} (h : Off g w wr) (n : Nat) : Off g w (wr.drewN n) := ⟨bl_drewN h.bel n, h.sz, h.oth⟩
theorem RowS.drewN {w : World} {g : Nat} {t : TypeId} {sz : Nat} {L : List Src} (h : RowS w g t sz L) (n : Nat) : RowS (w.drewN n) g t sz L := h
theorem ddT_full {L : List Src} (j : Nat) (h : L.length ≤ j) : ddT L (j + 1) = ddT L j := by simp only [ddT, dif_neg (Nat.not_lt.2 h)]
theorem ddT_mem {L : List Src} : ∀ j, ∀ x ∈ ddT L j, x ∈ L
  | 0, _, h => by cases h
  | j + 1, x, h => by
    rw [ddT] at h
    split at h
    · rename_i hj
      split at h
      · exact ddT_mem j x h
      · rcases List.mem_append.1 h with h | h
        · exact ddT_mem j x h
        · rw [List.mem_singleton.1 h]; exact List.getElem_mem hj
    · exact ddT_mem j x h
end Go.Tw.Fu
namespace Go.Proofs.YtelnnjofccldgaaGreatDoor.Fu
open Go.RowKit Go.Tw Go.Tw.Ord Go.Tw.Ps Go.Tw.Fu Go.Sort
/-- what Compact leaves -/
def CmpE (w : World) (g : Nat) (S : Nat → Prop) (l : List Src) (e : Ending) (w' : World) : Prop := ∃ v', e = .returned v' ∧ SlIs tSrc S w' v' l ∧ Off g w w'
set_option maxRecDepth 100000 in
set_option maxHeartbeats 4000000 in
theorem compact_any (L : List Src) (g cap : Nat) (w : World) (S : Nat → Prop) (hS : S g) (hL : ∀ x ∈ L, SrcOk x) (hr : RowS w g 32 (cap * 2) L) (hcap : L.length ≤ cap) (hm : cap ≤ maxLen) :
    Calls Tryz.prog 15 #[.slice (some ⟨g, 0, none⟩) L.length cap] w (CmpE w g S (ddT L L.length)) := by
  have HR := Lib.hid hr
  have HL := Lib.hid hL
  have HMX := Lib.hid hm
  have hgl := hr.lt
  unfold maxLen at hm
  clear hr hL
  go_enter Tryz.func15, Tryz.ntmps15
  by_cases hs : L.length < 2
  · have hd : decide ((L.length : Int) < 2) = true := by simp; omega
    have HD := Lib.hid (show ddT L L.length = L by
      match L, hs with
      | [], _ => rfl
      | [x], _ => exact ddT_one (L := [x]) (by simp))
    clear hs
    go_wp2
    go_ret
    refine ⟨_, rfl, ?_, Off.refl _ _⟩
    rw [HD.out]
    exact HR.out.sl hS hcap HMX.out HL.out
  have hd : decide ((L.length : Int) < 2) = false := by simp; omega
  have H2 := Lib.hid hs
  clear hs
  go_wp2_with (fail)
  go_loopg [3] (L.length - 1) (fun g' k' wr => ∃ k : Nat, k + g' = L.length ∧ 0 < k ∧ k' = .int .i64 k ∧ Hid (ddT L k = L.take k) ∧ Below w.heap.size w wr)
  case atStart => exact ⟨1, by have := H2.out; omega, by omega, by go_num, Lib.hid (ddT_one (by have := H2.out; omega)), Below.refl _ _⟩
  case round =>
    obtain ⟨k, hk, hk0, rfl, HK, hb1⟩ := hrel
    have HB := Lib.hid hb1
    have HRw := Lib.hid (HR.out.block (hb1.block g hgl))
    clear hb1
    by_cases hk2 : k < L.length
    case neg =>
      obtain rfl : k = L.length := by omega
      have hkd : decide ((L.length : Int) < (L.length : Int)) = false := by simp
      clear hk2
      go_wp2_with (fail)
      go_ret
      refine ⟨_, rfl, ?_, (Off.refl g w).below hgl HB.out⟩
      rw [HK.out, List.take_length]
      exact HRw.out.sl hS hcap HMX.out HL.out
    obtain ⟨p, hp⟩ : ∃ p, k = p + 1 := ⟨k - 1, by omega⟩
    have hp2 : p < L.length := by omega
    obtain ⟨x, hx⟩ : ∃ x, L[k] = x := ⟨_, rfl⟩
    obtain ⟨y, hy⟩ : ∃ y, L[p] = y := ⟨_, rfl⟩
    obtain ⟨x0, x1, xf⟩ := HRw.out.cells hk2
    obtain ⟨y0, y1, yf⟩ := HRw.out.cells hp2
    rw [hx] at x0 x1
    rw [hy] at y0 y1
    have HE := run_src_eql x y
    simp only [srcCells] at HE
    have HXY := Lib.hid (show ∀ h1 h2, L[k]'h1 = x ∧ L[k - 1]'h2 = y from fun _ _ => ⟨hx, by simp only [hp, Nat.add_sub_cancel, hy]⟩)
    have k0 : (0 : Int) ≤ (k : Int) := by omega
    have k1 : (k : Int) < (L.length : Int) := by omega
    have p0 : (0 : Int) ≤ (p : Int) := by omega
    have p1 : (p : Int) < (L.length : Int) := by omega
    have k2 : IntKind.i64.wrap ((k : Int) - 1) = (p : Int) := by rw [wrap_in (by omega) (by omega)]; omega
    clear hx hy hp hp2
    by_cases hq : x = y
    case neg =>
      simp only [decide_eq_false hq] at HE
      have HQ := Lib.hid hq
      clear hq
      have HT := Lib.hid (List.take_succ_eq_append_getElem hk2)
      go_wp2_with (fail)
      go_quiet (fail)
      go_wp2_with (fail)
      go_roundg (L.length - (k + 1))
      case measure => omega
      case rel => exact ⟨k + 1, by omega, by omega, by go_num, Lib.hid (by rw [ddT_ne hk2 hk0 (by rw [(HXY.out hk2 (by omega)).1, (HXY.out hk2 (by omega)).2]; exact HQ.out), HK.out, HT.out]), bl_drewN HB.out _⟩
    simp only [decide_eq_true hq] at HE
    have HQ := Lib.hid hq
    have HD1 := Lib.hid (show ddT L (k + 1) = L.take k by rw [ddT_eq hk2 hk0 (by rw [(HXY.out hk2 (by omega)).1, (HXY.out hk2 (by omega)).2]; exact hq), HK.out])
    have k3 : (k : Int) ≤ (L.length : Int) := by omega
    have k4 : (k : Int) ≤ (cap : Int) := by omega
    have HK2 := Lib.hid hk2
    have HOF := Lib.hid ((Off.refl g w).below hgl HB.out)
    clear hq hk hk0
    go_wp2_with (fail)
    go_quiet (fail)
    go_wp2_with (fail)
    go_loopg [5, 3] (L.length - (k + 1)) (fun g' j' i' wr => ∃ j i : Nat, k + j + g' = L.length ∧ j' = .int .i64 j ∧ i' = .int .i64 i ∧ i < k + j ∧ 0 < j ∧ Hid ((ddT L (k + j)).length = i) ∧ RowS wr g 32 (cap * 2) (ddT L (k + j) ++ L.drop i) ∧ Off g w wr)
    case atStart => exact ⟨1, k, by have := HK2.out; omega, by go_num, rfl, by omega, by omega, Lib.hid (by rw [HD1.out, List.length_take]; have := HK2.out; omega), by rw [HD1.out, List.take_append_drop]; exact HRw.out, HOF.out.drewN _⟩
    case round =>
      clear HD1 HRw HOF k1 p0 p1 k2 x0 x1 xf y0 y1 yf HB HE HXY HQ HK
      obtain ⟨j, i, hj, rfl, rfl, hij, hj0, HK, hrow, hoff⟩ := hrel
      have HROW := Lib.hid hrow
      have HOFF := Lib.hid hoff
      clear hrow hoff
      obtain ⟨K, hKK⟩ : ∃ K, ddT L (k + j) = K := ⟨_, rfl⟩
      rw [hKK] at HK HROW
      have HKK := Lib.hid hKK
      clear hKK
      have hkl := HK2.out
      by_cases hjl : k + j < L.length
      · obtain ⟨p, hp⟩ : ∃ p, j = p + 1 := ⟨j - 1, by omega⟩
        have hjr : k + j < (K ++ L.drop i).length := by rw [List.length_append, HK.out, List.length_drop]; omega
        have hpr : k + p < (K ++ L.drop i).length := by omega
        have hir : i < (K ++ L.drop i).length := by omega
        obtain ⟨x0, x1, xf⟩ := HROW.out.cells hjr
        obtain ⟨y0, y1, yf⟩ := HROW.out.cells hpr
        obtain ⟨z0, z1, zf⟩ := HROW.out.cells hir
        rw [row_get HK.out (by omega) hjl hjr] at x0 x1
        rw [row_get HK.out (by omega) (by omega) hpr] at y0 y1
        obtain ⟨x, hx⟩ : ∃ x, L[k + j] = x := ⟨_, rfl⟩
        obtain ⟨y, hy⟩ : ∃ y, L[k + p] = y := ⟨_, rfl⟩
        rw [hx, Nat.add_mul] at x0 x1
        rw [hy, Nat.add_mul] at y0 y1
        have HE := run_src_neq x y
        simp only [srcCells] at HE
        have HXY := Lib.hid (show ∀ h1 h2, L[k + j]'h1 = x ∧ L[k + j - 1]'h2 = y from fun _ _ => ⟨hx, by simp only [hp, ← Nat.add_assoc, Nat.add_sub_cancel, hy]⟩)
        have j0 : (0 : Int) ≤ (j : Int) := by omega
        have j1 : (j : Int) < ((L.length - k : Nat) : Int) := by omega
        have p0 : (0 : Int) ≤ (p : Int) := by omega
        have p1 : (p : Int) < ((L.length - k : Nat) : Int) := by omega
        have i0 : (0 : Int) ≤ (i : Int) := by omega
        have i1 : (i : Int) < (L.length : Int) := by omega
        have k2 : IntKind.i64.wrap ((j : Int) - 1) = (p : Int) := by rw [wrap_in (by omega) (by omega)]; omega
        clear hx hy hp
        by_cases hq : x = y
        · simp only [decide_eq_true hq, Bool.not_true] at HE
          have HT := Lib.hid (show ddT L (k + (j + 1)) = K by rw [← Nat.add_assoc, ddT_eq hjl (by omega) (by rw [(HXY.out hjl (by omega)).1, (HXY.out hjl (by omega)).2]; exact hq), HKK.out])
          clear hq
          go_wp2_with (fail)
          go_quiet (fail)
          go_wp2_with (fail)
          go_roundg (L.length - (k + (j + 1)))
          case measure => omega
          case rel => exact ⟨j + 1, i, by omega, by go_num, rfl, by omega, by omega, Lib.hid (by rw [HT.out]; exact HK.out), by rw [HT.out]; exact HROW.out.drewN _, HOFF.out.drewN _⟩
        · simp only [decide_eq_false hq, Bool.not_false] at HE
          have HT := Lib.hid (show ddT L (k + (j + 1)) = K ++ [x] by rw [← Nat.add_assoc, ddT_ne hjl (by omega) (by rw [(HXY.out hjl (by omega)).1, (HXY.out hjl (by omega)).2]; exact hq), HKK.out, (HXY.out hjl (by omega)).1])
          clear hq
          have HR3 := Lib.hid (show ∀ n, RowS (((wr.drewN n).setCell ⟨g, i * 2, none⟩ (.string x.dev)).setCell ⟨g, i * 2 + 1, none⟩ (.int .i64 x.seq)) g 32 (cap * 2) ((K ++ [x]) ++ L.drop (i + 1)) from fun n => by
            have := (HROW.out.drewN n).set hir x.dev x.seq
            rwa [row_set HK.out (by omega)] at this)
          go_wp2_with (fail)
          go_quiet (fail)
          go_wp2_with (fail)
          go_roundg (L.length - (k + (j + 1)))
          case measure => omega
          case rel => exact ⟨j + 1, i + 1, by omega, by go_num, by go_num, by omega, by omega, Lib.hid (by rw [HT.out, List.length_append, HK.out]; rfl), by rw [HT.out]; exact HR3.out _, ((HOFF.out.drewN _).set).set⟩
      · have hjk : k + j = L.length := by omega
        have HDL := Lib.hid (show ddT L L.length = K by rw [← hjk]; exact HKK.out)
        have hil : i < L.length := by omega
        have hci : ¬ cap = i := by omega
        have jd : decide (j < L.length - k) = false := by simp; omega
        have i0 : (0 : Int) ≤ (i : Int) := by omega
        have i1 : (i : Int) ≤ (L.length : Int) := by omega
        have i2 : (i : Int) ≤ (cap : Int) := by omega
        have hrl := HROW.out
        obtain ⟨A, a1, a2, a3⟩ := hrl
        have hzl : (Builtin.zeroCells (Value.agg #[.string ByteArray.empty, .int .i64 0]).cells (L.length - i)).toList.length = (L.length - i) * 2 := by
          unfold Builtin.zeroCells
          simp
          rfl
        have hasz : L.length * 2 ≤ A.size := by rw [a2]; omega
        have hcl : ∀ ty, (Builtin.clear_ #[27] ty #[.slice (some ⟨g, i * 2, none⟩) (L.length - i) (cap - i)]).run Tryz.prog wr = .ok (.tuple #[]) (wr.setCells g (i * 2) (Builtin.zeroCells (Value.agg #[.string ByteArray.empty, .int .i64 0]).cells (L.length - i)).toList) :=
          fun ty => Fu.run_clear_wide wr _ 32 ty _ Tryz.underlying27 (fun _ => by kernel_rfl) g (i * 2) _ _ (by omega) (fun t ht => by
            rw [hzl] at ht
            rw [cell_of_row _ _ _ _ _ _ a1, Array.getElem?_eq_getElem (by omega)]; rfl) (fun t _ => frozen_of_row _ _ _ _ _ a1) (zero2 _)
        have HRC := Lib.hid (show RowS (wr.setCells g (i * 2) (Builtin.zeroCells (Value.agg #[.string ByteArray.empty, .int .i64 0]).cells (L.length - i)).toList) g 32 (cap * 2) K by
          have := HROW.out.clear (Builtin.zeroCells (Value.agg #[.string ByteArray.empty, .int .i64 0]).cells (L.length - i)).toList
          rwa [HK.out] at this)
        have HOC := Lib.hid (HOFF.out.setCells (Builtin.zeroCells (Value.agg #[.string ByteArray.empty, .int .i64 0]).cells (L.length - i)).toList (i * 2))
        clear a1 a2 a3 hzl hasz hjl hjk hj
        go_wp2_with (fail)
        go_ret
        refine ⟨_, rfl, ?_, HOC.out⟩
        have hfin := HRC.out.sl hS (by rw [HK.out]; omega) HMX.out (fun x hx => HL.out x (ddT_mem L.length x (by rw [HDL.out]; exact hx)))
        rw [HK.out] at hfin
        rw [HDL.out]
        exact hfin
end Go.Proofs.YtelnnjofccldgaaGreatDoor.Fu
