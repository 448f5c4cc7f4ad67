/-
  Layer 10 (plate): the walk of the reference's Vote.
-/
import Derived.Test.YthpmclhpagcbiaaPlateVote
import Derived.Test.YthpmclhpagcbiaaPlateBefore
import Derived.Test.YthpmclhpagcbiaaPlateDistR
import Derived.Deep.RegionHeld3
namespace Go.Proofs.Ythpmclhpagcbiaa
open Go.RowKit Go.Tw Go.Tw.Plate

/-- the best of the first k, by its place -/
def BestAt (f : ByteArray → Int) (rs : List ByteArray) (k : Nat) (t n : Int) : Prop := (k = 0 ∧ t = -1 ∧ n = 0) ∨ ∃ (a : Nat) (h : a < rs.length), a < k ∧ t = (a : Int) ∧ BestIn f (rs.take k) rs[a] n
set_option maxRecDepth 100000 in
set_option maxHeartbeats 4000000 in
theorem VoteR_any (rs : List ByteArray) (ws : List Int) (v u : Value) (w : World) (h : SlIs tStr (· < w.heap.size) w v rs) (hu : SlIs tInt (· < w.heap.size) w u ws) (hlen : rs.length ≤ 1000) (hl : ∀ x ∈ rs, x.size ≤ 1000000) :
    Calls Try.prog 25 #[v, u] w fun e w' => IsVote rs ws e ∧ Below w.heap.size w w' := by
  obtain ⟨ao, cap, b, off, rfl, h1, h2, ho⟩ := strs_open h
  obtain ⟨au, capu, bu, offu, rfl, h3, h4, hou⟩ := ints_open hu
  unfold maxLen at h2 h4
  clear h hu
  by_cases h0 : rs.length = 0
  · have hz : ((rs.length : Int) == 0) = true := by rw [beq_iff_eq]; omega
    have HV := Lib.hid (show IsVote rs ws (.returned (.tuple #[.string ByteArray.empty, .int .i64 0])) from ⟨_, _, rfl, by unfold VoteOf; rw [if_pos (.inl h0)]; exact ⟨rfl, rfl⟩⟩)
    clear h0
    go_enter Try.func25, Try.ntmps25
    go_wp2
    go_ret2
    exact ⟨HV.out, Below.refl _ _⟩
  have hz : ((rs.length : Int) == 0) = false := by rw [beq_eq_false_iff_ne]; omega
  by_cases hne0 : rs.length = ws.length
  case neg =>
    have hne : ((rs.length : Int) != (ws.length : Int)) = true := by rw [bne_iff_ne]; omega
    have HV := Lib.hid (show IsVote rs ws (.returned (.tuple #[.string ByteArray.empty, .int .i64 0])) from ⟨_, _, rfl, by unfold VoteOf; rw [if_pos (.inr hne0)]; exact ⟨rfl, rfl⟩⟩)
    clear h0 hne0
    go_enter Try.func25, Try.ntmps25
    go_wp2
    go_ret2
    exact ⟨HV.out, Below.refl _ _⟩
  have hne : ((rs.length : Int) != (ws.length : Int)) = false := by rw [bne_eq_false_iff_eq]; omega
  have HLL := Lib.hid hne0
  have HL0 := Lib.hid h0
  clear h0 hne0
  go_enter Try.func25, Try.ntmps25
  go_wp2
  go_loopg [8, 6, 7] rs.length (fun g i bs at' wr => ∃ (k : Nat) (t n : Int), k + g = rs.length ∧ i = .int .i64 k ∧ bs = .int .i64 n ∧ at' = .int .i64 t ∧ BestAt (vsum rs ws) rs k t n ∧ Below w.heap.size w wr)
  case atStart => exact ⟨0, -1, 0, by omega, rfl, rfl, rfl, .inl ⟨rfl, rfl, rfl⟩, Below.refl _ _⟩
  case round =>
    obtain ⟨wo, rfl⟩ : ∃ wo : World, wo = wr := ⟨_, rfl⟩
    obtain ⟨k, t, n, hk, rfl, rfl, rfl, hbe, hb2⟩ := hrel
    have HBE := Lib.hid hbe; clear hbe
    have HB2 := Lib.hid hb2
    by_cases hlt : k < rs.length
    case neg =>
      obtain rfl : k = rs.length := by omega
      have hjd : decide ((rs.length : Int) < (rs.length : Int)) = false := by simp
      rcases HBE.out with ⟨q1, -, -⟩ | ⟨a, ha, hak, rfl, hbi⟩
      · exact absurd q1 HL0.out
      · obtain ⟨rfl, -, -, c1, -⟩ := ho wo (.of_below hb2) a ha
        have a0 : (0 : Int) ≤ (a : Int) := by omega
        have a1 : (a : Int) < (rs.length : Int) := by omega
        rw [List.take_length] at hbi
        have HV := Lib.hid (show IsVote rs ws (.returned (.tuple #[.string rs[a], .int .i64 n])) from ⟨_, _, rfl, by
          unfold VoteOf
          rw [if_neg (by have := HLL.out; have := HL0.out; omega)]
          exact hbi⟩)
        clear hbi ho hou hlt hk hb2
        go_wp2
        go_ret2
        exact ⟨HV.out, HB2.out⟩
    obtain ⟨rfl, hq1, hq2, c0, -⟩ := ho wo (.of_below hb2) k hlt
    have HS0 := Lib.hid (hl _ (List.getElem_mem hlt))
    have HO := Lib.hid ho
    have HU := Lib.hid hou
    have k0 : (0 : Int) ≤ (k : Int) := by omega
    have k1 : (k : Int) < (rs.length : Int) := by omega
    clear ho hou
    go_wp2
    go_loopg [10, 9] rs.length (fun g' i' sm wi => ∃ j : Nat, j + g' = rs.length ∧ i' = .int .i64 j ∧ sm = .int .i64 (vsum (rs.take j) (ws.take j) rs[k]) ∧ Below w.heap.size w wi)
    case atStart => exact ⟨0, by omega, rfl, by simp [vsum], HB2.out⟩
    case round =>
      obtain ⟨j, hj, rfl, rfl, hb3⟩ := hrel
      have HB3 := Lib.hid hb3
      by_cases hjl : j < rs.length
      case neg =>
        obtain rfl : j = rs.length := by omega
        have HF := Lib.hid (show vsum (rs.take rs.length) (ws.take rs.length) rs[k] = vsum rs ws rs[k] by rw [HLL.out, List.take_length, ← HLL.out, List.take_length])
        have HT := Lib.hid (List.take_succ_eq_append_getElem hlt)
        have hvr := vsum_range rs ws rs[k]
        obtain ⟨-, -, -, c0', -⟩ := HO.out wr (.of_below hb3) k hlt
        have hjd : decide ((rs.length : Int) < (rs.length : Int)) = false := by simp
        clear hjl hj hb2 c0
        rw [HF.out]
        rcases HBE.out with ⟨q1, rfl, rfl⟩ | ⟨a, ha, hak, rfl, hbi⟩
        · have HR := Lib.hid (show BestAt (vsum rs ws) rs (k + 1) (k : Int) (vsum rs ws rs[k]) from .inr ⟨k, hlt, by omega, rfl, by
            rw [HT.out, show rs.take k = [] by simp [q1]]
            exact BestIn.one _ _⟩)
          clear hb3
          go_wp2_with (go_quiet (fail))
          go_roundg (rs.length - (k + 1))
          case measure => omega
          case rel => exact ⟨k + 1, _, _, by omega, by go_num, rfl, rfl, HR.out, bl_drewN HB3.out _⟩
        · obtain ⟨-, -, -, c1, -⟩ := HO.out wr (.of_below hb3) a ha
          have HSA := Lib.hid (hl _ (List.getElem_mem ha))
          have a0 : (0 : Int) ≤ (a : Int) := by omega
          have a1 : (a : Int) < (rs.length : Int) := by omega
          have ad : decide ((a : Int) < 0) = false := by simp
          have hcs : (decide (vsum rs ws rs[k] < n) = true ∧ Hid (BestAt (vsum rs ws) rs (k + 1) (k : Int) (vsum rs ws rs[k]))) ∨
              (decide (vsum rs ws rs[k] < n) = false ∧ (vsum rs ws rs[k] == n) = false ∧ Hid (BestAt (vsum rs ws) rs (k + 1) (a : Int) n)) ∨
              (decide (vsum rs ws rs[k] < n) = false ∧ (vsum rs ws rs[k] == n) = true ∧ ltL (codes rs[k]) (codes rs[a]) = true ∧ Hid (BestAt (vsum rs ws) rs (k + 1) (k : Int) (vsum rs ws rs[k]))) ∨
              (decide (vsum rs ws rs[k] < n) = false ∧ (vsum rs ws rs[k] == n) = true ∧ ltL (codes rs[k]) (codes rs[a]) = false ∧ Hid (BestAt (vsum rs ws) rs (k + 1) (a : Int) n)) := by
            rcases Int.lt_trichotomy (vsum rs ws rs[k]) n with q | q | q
            · exact .inl ⟨by simp [q], .inr ⟨k, hlt, by omega, rfl, by rw [HT.out]; exact hbi.less q⟩⟩
            · cases hl2 : ltL (codes rs[k]) (codes rs[a])
              · exact .inr (.inr (.inr ⟨by simp; omega, by simp [q], rfl, .inr ⟨a, ha, by omega, rfl, by rw [HT.out]; exact hbi.more (.inr ⟨q.symm, hl2⟩)⟩⟩))
              · exact .inr (.inr (.inl ⟨by simp; omega, by simp [q], rfl, .inr ⟨k, hlt, by omega, rfl, by rw [HT.out]; exact hbi.first q.symm hl2⟩⟩))
            · exact .inr (.inl ⟨by simp; omega, by simp; omega, .inr ⟨a, ha, by omega, rfl, by rw [HT.out]; exact hbi.more (.inl q)⟩⟩)
          clear hbi hb3
          rcases hcs with ⟨q1, HR⟩ | ⟨q1, q2, HR⟩ | ⟨q1, q2, q3, HR⟩ | ⟨q1, q2, q3, HR⟩
          all_goals
            go_wp2_with (go_quiet ((go_at_call 37; first | exact Calls.quiet_of (Before_quiet _ _ _ HS0.out HSA.out) | exact quiet_add (Before_quiet _ _ _ HS0.out HSA.out))))
            go_roundg (rs.length - (k + 1))
            case measure => omega
            case rel => exact ⟨k + 1, _, _, by omega, by go_num, rfl, rfl, HR.out, bl_drewN HB3.out _⟩
      have hjw : j < ws.length := by have := HLL.out; omega
      obtain ⟨-, -, -, c0', -⟩ := HO.out wr (.of_below hb3) k hlt
      obtain ⟨-, -, -, c1, -⟩ := HO.out wr (.of_below hb3) j hjl
      obtain ⟨rfl, hy0, d0, dr⟩ := HU.out wr hb3 j hjw
      unfold i64ok at dr
      have HS1 := Lib.hid (hl _ (List.getElem_mem hjl))
      have j0 : (0 : Int) ≤ (j : Int) := by omega
      have j1 : (j : Int) < (rs.length : Int) := by omega
      have j2 : (j : Int) < (ws.length : Int) := by omega
      have hws := hb3.size
      have HVS := Lib.hid (show IntKind.i64.wrap (vsum (rs.take j) (ws.take j) rs[k] + IntKind.i64.wrap (clampW ws[j] * distS rs[k] rs[j])) = vsum (rs.take (j + 1)) (ws.take (j + 1)) rs[k] by
        have hvr := vsum_range (rs.take j) (ws.take j) rs[k]
        rw [List.length_take] at hvr
        have hdr := distS_range rs[k] rs[j]
        have hcl := clampW_range ws[j]
        have hm1 : 0 ≤ clampW ws[j] * distS rs[k] rs[j] := Int.mul_nonneg hcl.1 hdr.1
        have hm2 : clampW ws[j] * distS rs[k] rs[j] ≤ 1000 * 96 := Int.mul_le_mul hcl.2 hdr.2 hdr.1 (by omega)
        rw [wrap_in (x := clampW ws[j] * distS rs[k] rs[j]) (by omega) (by omega), wrap_in (by omega) (by omega), List.take_succ_eq_append_getElem hjl, List.take_succ_eq_append_getElem hjw,
          vsum_snoc _ _ _ _ _ (by rw [List.length_take, List.length_take]; omega)])
      clear hb3 hb2 c0
      go_wp2_with (fail)
      go_region_held3 (fun w' => w'.cell? ⟨b, off + k, none⟩ = some (.string rs[k]) ∧ w'.cell? ⟨b, off + j, none⟩ = some (.string rs[j]) ∧ w'.cell? ⟨bu, offu + j, none⟩ = some (.int .i64 ws[j])) (go_keep)
        (first
          | (go_at_call 39; refine (weight_any _ _).mono ?_; rintro e w' ⟨rfl, rfl⟩)
          | (go_at_call 17
             refine (DistanceR_any _ _ _ HS0.out HS1.out).mono ?_
             rintro e w4 ⟨rfl, hb4⟩
             have HB4 := Lib.hid (show Below wr.heap.size wr w4 from Below.trans (b := wr.drew) (Below.drew (Below.refl _ _)) hb4)
             have e1 := (HB4.out.cell (p := ⟨b, off + k, none⟩) (by show b < _; omega)).trans c0'
             have e2 := (HB4.out.cell (p := ⟨b, off + j, none⟩) (by show b < _; omega)).trans c1
             have e3 := (HB4.out.cell (p := ⟨bu, offu + j, none⟩) (by show bu < _; omega)).trans d0
             clear hb4))
      all_goals
        go_wp2
        go_roundg (rs.length - (j + 1))
        case measure => omega
        case rel => exact ⟨j + 1, by omega, by go_num, congrArg (Value.int .i64) HVS.out, HB3.out.trans (HB4.out.mono HB3.out.size)⟩
end Go.Proofs.Ythpmclhpagcbiaa
