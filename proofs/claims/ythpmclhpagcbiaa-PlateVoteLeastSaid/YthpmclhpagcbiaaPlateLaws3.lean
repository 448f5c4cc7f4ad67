/-
  Layer 10 (plate): the law PlateVoteLeast.
-/
import Derived.Test.YthpmclhpagcbiaaPlateLaws
namespace Go.Proofs.Ythpmclhpagcbiaa
open Go.RowKit Go.Tw Go.Tw.Plate Go.ChangeShapes Go.WideShapes

def InW (ws : List Int) (k : Nat) : Prop := ∀ j (hj : j < ws.length), j < k → 0 ≤ ws[j] ∧ ws[j] ≤ 1000
theorem InW.succ {ws : List Int} {k : Nat} (h : InW ws k) (hk : k < ws.length) (hp : 0 ≤ ws[k] ∧ ws[k] ≤ 1000) : InW ws (k + 1) := fun j hj hjk => by
  rcases Nat.lt_or_ge j k with q | q
  · exact h j hj q
  · obtain rfl : j = k := by omega
    exact hp
set_option maxRecDepth 100000 in
set_option maxHeartbeats 8000000 in
theorem least_walk : LawWalk Try.prog 10 Try.f10 := by
  intro H enc W base args ds ps hval hA hsz
  rw [Try.params10] at hA hval
  obtain ⟨v0, v1, d0, d1, p0, p1, rfl, rfl, rfl, h0, h1⟩ := trodAll_two hA
  obtain ⟨l, hl⟩ := arg_slice Try.underlying32 opensStrs (hval 0 _ _ rfl rfl) h0
  obtain ⟨ws, hw⟩ := arg_slice Try.underlying37 opensInts (hval 1 _ _ rfl rfl) h1
  clear hA hval h0 h1 hsz
  have b0 : Below W.heap.size W W := Below.refl _ _
  obtain ⟨ap, capp, bp, offp, rfl, hp1, hp2, hop⟩ := strs_open hl
  obtain ⟨au, capu, bu, offu, rfl, hw1, hw2, hou⟩ := ints_open hw
  unfold maxLen at hw2 hp2
  go_enter Try.func10, Try.ntmps10
  go_wp2_with (fail)
  refine (few_any l _ _ hl).mono ?_
  rintro e w0 ⟨rfl, ⟨rfl, hf⟩ | ⟨rfl, -⟩⟩
  case inr =>
    clear hop hou
    go_wp2_with (fail)
    refine (awake_any _).mono ?_
    rintro e wz ⟨rfl, hb⟩
    replace b0 := bl_trans b0 hb
    clear hb
    go_wp2_with (fail)
    go_ret
    exact ⟨rfl, b0⟩
  by_cases hz : l.length = 0
  · have hz' : ((l.length : Int) == 0) = true := by rw [beq_iff_eq]; omega
    clear hop hou hz
    go_wp2_with (fail)
    refine (awake_any _).mono ?_
    rintro e wz ⟨rfl, hb⟩
    replace b0 := bl_trans b0 hb
    clear hb
    go_wp2_with (fail)
    go_ret
    exact ⟨rfl, b0⟩
  have hz' : ((l.length : Int) == 0) = false := by rw [beq_eq_false_iff_ne]; omega
  by_cases hne0 : l.length = ws.length
  case neg =>
    have hne : ((l.length : Int) != (ws.length : Int)) = true := by rw [bne_iff_ne]; omega
    clear hop hou hz hne0
    go_wp2_with (fail)
    refine (awake_any _).mono ?_
    rintro e wz ⟨rfl, hb⟩
    replace b0 := bl_trans b0 hb
    clear hb
    go_wp2_with (fail)
    go_ret
    exact ⟨rfl, b0⟩
  have hne : ((l.length : Int) != (ws.length : Int)) = false := by rw [bne_eq_false_iff_eq]; omega
  have HE := Lib.hid hne0
  have HZ := Lib.hid hz
  have HF := Lib.hid hf
  have HL := Lib.hid hl
  have HW := Lib.hid hw
  have HOP := Lib.hid hop
  have HOU := Lib.hid hou
  have hll := hf.1
  clear hne0 hz hf hl hw hop hou
  go_wp2
  go_loopg [5] ws.length (fun g i wr => ∃ k : Nat, k + g = ws.length ∧ i = .int .i64 k ∧ InW ws k ∧ wr = W)
  case atStart => exact ⟨0, by omega, rfl, fun _ _ h => absurd h (Nat.not_lt_zero _), rfl⟩
  case round =>
    obtain ⟨k, hk, rfl, hin, hwr⟩ := hrel
    subst hwr
    have HI := Lib.hid hin; clear hin
    by_cases hlt : k < ws.length
    case pos =>
      obtain ⟨rfl, hy0, d0, dr⟩ := HOU.out wr (Below.refl _ _) k hlt
      have k0 : (0 : Int) ≤ (k : Int) := by omega
      have k1 : (k : Int) < (ws.length : Int) := by omega
      by_cases q1 : ws[k] < 0
      · go_wp2_with (fail)
        refine (awake_any _).mono ?_
        rintro e wz ⟨rfl, hb⟩
        replace b0 := bl_trans b0 hb
        clear hb
        go_wp2_with (fail)
        go_ret
        exact ⟨rfl, b0⟩
      by_cases q2 : 1000 < ws[k]
      · go_wp2_with (fail)
        refine (awake_any _).mono ?_
        rintro e wz ⟨rfl, hb⟩
        replace b0 := bl_trans b0 hb
        clear hb
        go_wp2_with (fail)
        go_ret
        exact ⟨rfl, b0⟩
      have HQ := Lib.hid (show 0 ≤ ws[k] ∧ ws[k] ≤ 1000 by omega)
      go_wp2
      go_roundg (ws.length - (k + 1))
      case measure => omega
      case rel => exact ⟨k + 1, by omega, by go_num, HI.out.succ hlt HQ.out, rfl⟩
    obtain rfl : k = ws.length := by omega
    have hd : decide ((ws.length : Int) < (ws.length : Int)) = false := by simp
    clear hlt hk
    go_wp2_with (fail)
    refine (Vote_any l ws _ _ _ HL.out HW.out (by omega) (fun x hx => by have := HF.out.2 x hx; omega)).mono ?_
    rintro e w1 ⟨⟨s, n, rfl, hv⟩, hb⟩
    replace b0 := bl_trans b0 hb
    have HV := Lib.hid (show BestIn (vsum l ws) l s n by
      unfold VoteOf at hv
      rw [if_neg (by have := HE.out; have := HZ.out; omega)] at hv
      exact hv)
    clear hb hv
    have HB0 := Lib.hid b0; clear b0
    go_wp2
    go_loopg [9, 8] l.length (fun g i f wx => ∃ (k : Nat) (b : Bool), k + g = l.length ∧ i = .int .i64 k ∧ f = .bool b ∧ (b = decide (s ∈ l.take k)) ∧ Below wr.heap.size wr wx)
    case atStart => exact ⟨0, false, by omega, rfl, rfl, by simp, HB0.out⟩
    case round =>
      obtain ⟨wo, rfl⟩ : ∃ wo : World, wo = wr := ⟨_, rfl⟩
      obtain ⟨k, b, hk, rfl, rfl, hbd, hb2⟩ := hrel
      have HBD := Lib.hid hbd; clear hbd
      have HB2 := Lib.hid hb2
      by_cases hlt : k < l.length
      case neg =>
        obtain rfl : k = l.length := by omega
        have hb1 : b = true := by rw [HBD.out, List.take_length]; exact decide_eq_true HV.out.1
        subst hb1
        have hd2 : decide ((l.length : Int) < (l.length : Int)) = false := by simp
        have b0 := hb2
        clear hlt hk hb2
        go_wp2_with (fail)
        refine (awake_any _).mono ?_
        rintro e wz ⟨rfl, hb⟩
        replace b0 := bl_trans b0 hb
        clear hb
        go_wp2_with (fail)
        go_ret
        exact ⟨rfl, b0⟩
      obtain ⟨rfl, hq1, hq2, c0, -⟩ := HOP.out wo (.of_below hb2) k hlt
      have HS0 := Lib.hid (show l[k].size ≤ 1000000 by have := HF.out.2 _ (List.getElem_mem hlt); omega)
      have HTK := Lib.hid (List.take_succ_eq_append_getElem hlt)
      have k0 : (0 : Int) ≤ (k : Int) := by omega
      have k1 : (k : Int) < (l.length : Int) := by omega
      clear hb2 c0
      go_wp2
      go_loopg [11, 10] l.length (fun g' i' sm wi => ∃ j : Nat, j + g' = l.length ∧ i' = .int .i64 j ∧ sm = .int .i64 (vsum (l.take j) (ws.take j) l[k]) ∧ Below wr.heap.size wr wi)
      case atStart => exact ⟨0, by omega, rfl, by simp [vsum], HB2.out⟩
      case round =>
        obtain ⟨wi, rfl⟩ : ∃ wq : World, wq = wr := ⟨_, rfl⟩
        obtain ⟨j, hj, rfl, rfl, hb3⟩ := hrel
        have HB3 := Lib.hid hb3
        by_cases hjl : j < l.length
        case neg =>
          obtain rfl : j = l.length := by omega
          have HV2 := Lib.hid (show vsum (l.take l.length) (ws.take l.length) l[k] = vsum l ws l[k] by rw [HE.out, List.take_length, ← HE.out, List.take_length])
          have hjd : decide ((l.length : Int) < (l.length : Int)) = false := by simp
          obtain ⟨-, -, -, c0, -⟩ := HOP.out wi (.of_below hb3) k hlt
          have hge : decide (vsum l ws l[k] < n) = false := by
            have h1 := HV.out.2.2 l[k] (List.getElem_mem hlt)
            have h2 := HV.out.2.1
            refine decide_eq_false ?_
            rcases h1 with h1 | h1 <;> omega
          have hcs : ((l[k].toList == s.toList) = true ∧ (vsum l ws l[k] != n) = false ∧ Hid (decide (s ∈ l.take (k + 1)) = true)) ∨ ((l[k].toList == s.toList) = false ∧ Hid (decide (s ∈ l.take (k + 1)) = b)) := by
            rw [str_eq]
            by_cases e : l[k] = s
            · refine .inl ⟨decide_eq_true e, ?_, ?_⟩
              · rw [bne_eq_false_iff_eq, HV.out.2.1, e]
              · show decide _ = true
                rw [HTK.out, e]
                simp
            · refine .inr ⟨decide_eq_false e, ?_⟩
              show decide _ = b
              rw [HBD.out, HTK.out]
              congr 1
              refine propext ⟨fun q => ?_, fun q => List.mem_append.2 (.inl q)⟩
              rcases List.mem_append.1 q with q | q
              · exact q
              · exact absurd (List.mem_singleton.1 q).symm e
          clear hjl hj hb3
          rw [HV2.out]
          have hbb : b = true ∨ b = false := by cases b <;> simp
          rcases hcs with ⟨q1, q2, HR⟩ | ⟨q1, HR⟩ <;> rcases hbb with rfl | rfl
          all_goals
            go_wp2
            go_roundg (l.length - (k + 1))
            case measure => omega
            case rel => exact ⟨k + 1, _, by omega, by go_num, rfl, HR.out.symm, HB3.out⟩
        have hjw : j < ws.length := by have := HE.out; omega
        obtain ⟨-, -, -, c0, -⟩ := HOP.out wi (.of_below hb3) k hlt
        obtain ⟨-, -, -, c1, -⟩ := HOP.out wi (.of_below hb3) j hjl
        obtain ⟨rfl, hy0, d0, dr⟩ := HOU.out wi hb3 j hjw
        have HS1 := Lib.hid (show l[j].size ≤ 1000000 by have := HF.out.2 _ (List.getElem_mem hjl); omega)
        have j0 : (0 : Int) ≤ (j : Int) := by omega
        have j1 : (j : Int) < (l.length : Int) := by omega
        have j2 : (j : Int) < (ws.length : Int) := by omega
        have hws := hb3.size
        have HVS := Lib.hid (show IntKind.i64.wrap (vsum (l.take j) (ws.take j) l[k] + IntKind.i64.wrap (ws[j] * distS l[k] l[j])) = vsum (l.take (j + 1)) (ws.take (j + 1)) l[k] by
          have hvr := vsum_range (l.take j) (ws.take j) l[k]
          rw [List.length_take] at hvr
          have hdr := distS_range l[k] l[j]
          have hcl := HI.out j hjw hjw
          have hm1 : 0 ≤ ws[j] * distS l[k] l[j] := Int.mul_nonneg hcl.1 hdr.1
          have hm2 : ws[j] * distS l[k] l[j] ≤ 1000 * 96 := Int.mul_le_mul hcl.2 hdr.2 hdr.1 (by omega)
          rw [wrap_in (x := ws[j] * distS l[k] l[j]) (by omega) (by omega), wrap_in (by omega) (by omega), List.take_succ_eq_append_getElem hjl, List.take_succ_eq_append_getElem hjw,
            vsum_snoc _ _ _ _ _ (by rw [List.length_take, List.length_take]; omega), show clampW ws[j] = ws[j] by unfold clampW; rw [if_neg (by omega)]; omega])
        clear hb3
        go_wp2_with (fail)
        go_region_held3 (fun w' => w'.cell? ⟨bp, offp + k, none⟩ = some (.string l[k]) ∧ w'.cell? ⟨bp, offp + j, none⟩ = some (.string l[j]) ∧ w'.cell? ⟨bu, offu + j, none⟩ = some (.int .i64 ws[j])) (go_keep)
          (first
            | (go_at_call 16
               refine (Distance_any _ _ _ HS0.out HS1.out).mono ?_
               rintro e w4 ⟨rfl, hb4⟩
               have HB4 := Lib.hid (show Below wi.heap.size wi w4 from Below.trans (b := wi.drew) (Below.drew (Below.refl _ _)) hb4)
               have e1 := (HB4.out.cell (p := ⟨bp, offp + k, none⟩) (by show bp < _; omega)).trans c0
               have e2 := (HB4.out.cell (p := ⟨bp, offp + j, none⟩) (by show bp < _; omega)).trans c1
               have e3 := (HB4.out.cell (p := ⟨bu, offu + j, none⟩) (by show bu < _; omega)).trans d0
               clear hb4))
        all_goals
          go_wp2
          go_roundg (l.length - (j + 1))
          case measure => omega
          case rel => exact ⟨j + 1, by omega, by go_num, congrArg (Value.int .i64) HVS.out, HB3.out.trans (HB4.out.mono HB3.out.size)⟩

set_option maxRecDepth 100000 in
theorem least_lift (os : Os) (started : os.Started) (H : Type) (enc : TypeId × Value → H) :
    ReturnsInHanded {} Try.checked os 10 .any (Rows.plateVoteLeastSpec.pre6 enc Try.prog Try.f10 Rows.plateVoteLeastRow.domain false) (Rows.plateVoteLeastSpec.post enc Try.prog Try.f10 false true false false) :=
  law_lift (C := Try.checked) (s := Rows.plateVoteLeastSpec) (fn := Try.f10) ⟨rfl, fun H ds h => by
    match ds, h with
    | [a, b], _ => exact ⟨rfl, rfl, rfl⟩⟩ rfl Try.underlying4 (by kernel_rfl) laid0 own0 started (by kernel_rfl) Try.func10
    (ChangeSpec.witness6 (enc := enc) (C := Try.checked) false ⟨#[], #[.slice none 0 0, .slice none 0 0], []⟩ 8 (by kernel_rfl) (by kernel_rfl) (by kernel_rfl) (by kernel_rfl)) least_walk

/-- THE STATEMENT: PlateVoteLeast. -/
theorem least_holds : Rows.PlateVoteLeastSaid :=
  OpenClaim.holds_of_wide 10 Try.f10 rfl rfl rfl rfl rfl rfl rfl ⟨rfl, rfl, rfl, rfl, rfl⟩ rfl rfl rfl rfl rfl (by kernel_rfl) Try.func10 (by kernel_rfl)
    (of_decide_eq_true (by kernel_rfl)) (by unfold Func.isWrapper; rw [if_neg (of_decide_eq_false (by kernel_rfl))]; exact ⟨rfl, rfl⟩)
    (fun os started H enc _ => least_lift os started H enc)
end Go.Proofs.Ythpmclhpagcbiaa
