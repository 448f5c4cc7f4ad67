/-
  Layer 10 (plate): the walk of Vote.
-/
import Derived.Test.YthpmclhpagcbiaaPlateSort2
namespace Go.Proofs.Ythpmclhpagcbiaa
open Go.RowKit Go.Tw Go.Tw.Plate Go.Sort

/-- the best of those looked at, or none yet -/
def Best0 (f : ByteArray → Int) (L : List ByteArray) (s : ByteArray) (n : Int) : Prop := (L = [] ∧ s = ByteArray.empty ∧ n = -1) ∨ (0 ≤ n ∧ BestIn f L s n)
/-- behind the readings rs, weights ws: the map in block w.heap.size, the list of different ones -/
structure VSt (w : World) (rs : List ByteArray) (ws : List Int) (n : Nat) (v : Value) (all : List ByteArray) (rd : List ByteArray) (wr : World) : Prop where
  own : OwnSl tStr 9 (w.heap.size + 1) wr v all
  map : MapIs kStr wr w.heap.size (wM rs ws) n
  bel : Below w.heap.size w wr
  nod : all.Nodup
  mem : ∀ x, x ∈ all ↔ x ∈ rd
  len : all.length ≤ rd.length
theorem VSt.below {w : World} {rs : List ByteArray} {ws : List Int} {n : Nat} {v : Value} {all rd : List ByteArray} {wr w' : World} (h : VSt w rs ws n v all rd wr) (hb : Below wr.heap.size wr w') : VSt w rs ws n v all rd w' :=
  ⟨h.own.below hb, h.map.below hb, bl_trans h.bel hb, h.nod, h.mem, h.len⟩
theorem VSt.old {w : World} {rs : List ByteArray} {ws : List Int} {n : Nat} {v : Value} {all rd : List ByteArray} {p : ByteArray} {wr : World} (h : VSt w rs ws n v all rd wr) (hp : p ∈ rd) : VSt w rs ws n v all (rd ++ [p]) wr :=
  { h with mem := fun x => (h.mem x).trans ⟨fun q => List.mem_append.2 (.inl q), fun q => by
      rcases List.mem_append.1 q with q | q
      · exact q
      · rw [List.mem_singleton.1 q]; exact hp⟩, len := by have := h.len; simp; omega }
theorem VSt.push {w : World} {rs : List ByteArray} {ws : List Int} {n : Nat} {v v' : Value} {all rd : List ByteArray} {p : ByteArray} {wr w' : World} (h : VSt w rs ws n v all rd wr) (hp : p ∉ rd)
    (ho : OwnSl tStr 9 (w.heap.size + 1) w' v' (all ++ [p])) (hb : Below (w.heap.size + 1) wr w') : VSt w rs ws n v' (all ++ [p]) (rd ++ [p]) w' where
  own := ho
  map := h.map.kept (hb.block _ (by omega))
  bel := h.bel.trans (hb.mono (by omega))
  nod := List.nodup_append.2 ⟨h.nod, by simp, fun a ha b hb e => by
    rw [List.mem_singleton.1 hb] at e
    subst e
    exact hp ((h.mem _).1 ha)⟩
  mem := fun x => by simp only [List.mem_append, h.mem x]
  len := by have := h.len; simp; omega
theorem VSt.put {w : World} {rs : List ByteArray} {ws : List Int} {p : ByteArray} {q : Int} {n : Nat} {v : Value} {all rd : List ByteArray} {wr w' : World} (h : VSt w rs ws n v all rd wr) (hl : rs.length = ws.length)
    (hm : MapIs kStr w' w.heap.size (fun y => if y = p then some (.int .i64 (wsum rs ws p + clampW q)) else wM rs ws y) (n + 1)) (hg : wr.grownBy w' (some w.heap.size)) : VSt w (rs ++ [p]) (ws ++ [q]) (n + 1) v all rd w' :=
  { h with
    own := h.own.grown hg (by
      cases ho : v.ownBlock with
      | none => exact .inl rfl
      | some g =>
        have := (h.own.own_lt g ho).1
        refine .inr fun e => ?_
        injection e with e
        omega) (fun css hc => AllIs.flat (fun h => h) hc)
    map := hm.ext (fun x => wM_snoc hl x)
    bel := h.bel.trans (Below.of_grown hg h.bel.size (fun k hk => by injection hk with hk; omega)) }
def IsVote (rs : List ByteArray) (ws : List Int) (e : Ending) : Prop := ∃ s n, e = .returned (.tuple #[.string s, .int .i64 n]) ∧ VoteOf rs ws s n
set_option maxRecDepth 100000 in
set_option maxHeartbeats 4000000 in
theorem Vote_any (rs : List ByteArray) (ws : List Int) (v u : Value) (w : World) (h : SlIs tStr (· < w.heap.size) w v rs) (hu : SlIs tInt (· < w.heap.size) w u ws) (hlen : rs.length ≤ 1000) (hl : ∀ x ∈ rs, x.size ≤ 1000000) :
    Calls Try.prog 24 #[v, u] w fun e w' => IsVote rs ws e ∧ Below w.heap.size w w' := by
  obtain ⟨ao, cap, b, off, rfl, h1, h2, ho⟩ := strs_open h
  obtain ⟨au, capu, bu, offu, rfl, h3, h4, hou⟩ := ints_open hu
  unfold maxLen at h2 h4
  clear h hu
  by_cases h0 : rs.length = 0
  · have hz : ((rs.length : Int) == 0) = true := by rw [beq_iff_eq]; omega
    have HV := Lib.hid (show IsVote rs ws (.returned (.tuple #[.string ByteArray.empty, .int .i64 0])) from ⟨_, _, rfl, by unfold VoteOf; rw [if_pos (.inl h0)]; exact ⟨rfl, rfl⟩⟩)
    clear h0
    go_enter Try.func24, Try.ntmps24
    go_wp2
    go_ret2
    exact ⟨HV.out, Below.refl _ _⟩
  have hz : ((rs.length : Int) == 0) = false := by rw [beq_eq_false_iff_ne]; omega
  by_cases hne0 : rs.length = ws.length
  case neg =>
    have hne : ((rs.length : Int) != (ws.length : Int)) = true := by rw [bne_iff_ne]; omega
    have HV := Lib.hid (show IsVote rs ws (.returned (.tuple #[.string ByteArray.empty, .int .i64 0])) from ⟨_, _, rfl, by unfold VoteOf; rw [if_pos (.inr hne0)]; exact ⟨rfl, rfl⟩⟩)
    clear h0 hne0
    go_enter Try.func24, Try.ntmps24
    go_wp2
    go_ret2
    exact ⟨HV.out, Below.refl _ _⟩
  have hne : ((rs.length : Int) != (ws.length : Int)) = false := by rw [bne_eq_false_iff_eq]; omega
  have HLL := Lib.hid hne0
  have HL0 := Lib.hid h0
  clear h0 hne0
  have hmm := @run_makeMap Try.prog
  go_enter Try.func24, Try.ntmps24
  go_wp2
  clear hmm
  go_loopg [32, 7] rs.length (fun g i o wr => ∃ (k : Nat) (all : List ByteArray), k + g = rs.length ∧ i = .int .i64 k ∧ VSt w (rs.take k) (ws.take k) k o all (rs.take k) wr)
  case atStart => exact ⟨0, [], by omega, rfl, OwnSl.nil _ _ _ _, MapIs.made _, bl_alloc (Below.refl _ _) _, List.nodup_nil, by simp, by simp⟩
  case round =>
    obtain ⟨k, all, hk, rfl, hst⟩ := hrel
    have HS := Lib.hid hst
    have HB := Lib.hid hst.bel
    by_cases hlt : k < rs.length
    case neg =>
      obtain rfl : k = rs.length := by omega
      have e1 : ws.take rs.length = ws := by rw [HLL.out, List.take_length]
      rw [List.take_length, e1] at HS
      clear hst hlt hk ho hou e1
      have hbw := HB.out.size
      have hmlt := HS.out.map.lt
      have hd : decide ((rs.length : Int) < (rs.length : Int)) = false := by simp
      have hlen2 := HS.out.len
      go_wp2_with (
        go_at_call 38
        refine (sort_any HS.out.own (by omega) (by omega)).mono ?_
        rintro e W1 ⟨rfl, l', hp, hso, hsl, hbs⟩
        have hlr : l'.length ≤ 1000 := by rw [hp.length_eq]; omega
        have HM := Lib.hid (show MapIs kStr W1 w.heap.size (wM rs ws) rs.length from HS.out.map.kept (hbs.block _ (by omega)))
        have HB1 := Lib.hid (show Below w.heap.size w W1 from HB.out.trans (hbs.mono (by omega)))
        have HMEM := Lib.hid (show ∀ x, x ∈ l' ↔ x ∈ rs from fun x => hp.mem_iff.trans (HS.out.mem x))
        have HND := Lib.hid (show l'.Nodup from hp.nodup_iff.2 HS.out.nod)
        have HSO := Lib.hid hso
        have hw1 := hbs.size
        clear hp hso hbs
        obtain ⟨ap, cp, bp, op, hpv, p1, p2, hop⟩ := strs_open hsl
        subst hpv
        unfold maxLen at p2
        clear hsl)
      go_loopg [64, 12, 13] l'.length (fun g i bs ls wr => ∃ (k : Nat) (s : ByteArray) (n : Int), k + g = l'.length ∧ i = .int .i64 k ∧ bs = .string s ∧ ls = .int .i64 n ∧ Best0 (vsum rs ws) (l'.take k) s n ∧ Below W1.heap.size W1 wr)
      case atStart => exact ⟨0, ByteArray.empty, -1, by omega, rfl, rfl, rfl, .inl ⟨by simp, rfl, rfl⟩, Below.refl _ _⟩
      case round =>
        obtain ⟨wo, rfl⟩ : ∃ wo : World, wo = wr := ⟨_, rfl⟩
        obtain ⟨k, s, n, hk, rfl, rfl, rfl, hbe, hb2⟩ := hrel
        have HBE := Lib.hid hbe; clear hbe
        have HB2 := Lib.hid hb2
        by_cases hlt : k < l'.length
        case neg =>
          obtain rfl : k = l'.length := by omega
          rw [List.take_length] at HBE
          have HV := Lib.hid (show IsVote rs ws (.returned (.tuple #[.string s, .int .i64 n])) from ⟨_, _, rfl, by
            unfold VoteOf
            rw [if_neg (by have := HLL.out; have := HL0.out; omega)]
            rcases HBE.out with ⟨q, -⟩ | ⟨-, q⟩
            · have := HMEM.out (rs[0]'(by have := HL0.out; omega))
              rw [q] at this
              exact absurd (this.2 (List.getElem_mem _)) (by simp)
            · exact q.mem (fun x => (HMEM.out x).symm)⟩)
          clear hlt hk hop
          go_wp2
          go_ret2
          exact ⟨HV.out, HB1.out.trans (hb2.mono (by omega))⟩
        obtain ⟨rfl, hq1, hq2, c0, hs0⟩ := hop wo (fun q hq => hb2.block q hq.2) k hlt
        have HS0 := Lib.hid (show l'[k].size ≤ 1000000 from hl _ ((HMEM.out _).1 (List.getElem_mem hlt)))
        have HOP := Lib.hid hop
        have hw2 := hb2.size
        clear hs0 hop
        go_wp2
        go_loopg [70, 16] l'.length (fun g' i' sm wi => ∃ j : Nat, j + g' = l'.length ∧ i' = .int .i64 j ∧ sm = .int .i64 (psum (wsum rs ws) l'[k] (l'.take j)) ∧ Below W1.heap.size W1 wi)
        case atStart => exact ⟨0, by omega, rfl, rfl, HB2.out⟩
        case round =>
          obtain ⟨j, hj, rfl, rfl, hb3⟩ := hrel
          have HB3 := Lib.hid hb3
          have hpr := psum_range (W := wsum rs ws) (M := 1000000) (fun p => by have := wsum_range rs ws p; omega) l'[k] (l'.take j)
          rw [List.length_take] at hpr
          by_cases hjl : j < l'.length
          case neg =>
            obtain rfl : j = l'.length := by omega
            have HF := Lib.hid (show psum (wsum rs ws) l'[k] (l'.take l'.length) = vsum rs ws l'[k] by
              rw [List.take_length]
              exact psum_all rs ws l'[k] l' HND.out (fun r hr => (HMEM.out r).2 hr))
            have HT := Lib.hid (List.take_succ_eq_append_getElem hlt)
            have hvr := vsum_range rs ws l'[k]
            clear hb3 hjl hj hb2
            rw [HF.out]
            by_cases hn : n < 0
            · have HR := Lib.hid (show Best0 (vsum rs ws) (l'.take (k + 1)) l'[k] (vsum rs ws l'[k]) from by
                rcases HBE.out with ⟨q, -, -⟩ | ⟨q, -⟩
                · exact .inr ⟨hvr.1, by rw [HT.out, q]; exact BestIn.one _ _⟩
                · omega)
              go_wp2
              go_roundg (l'.length - (k + 1))
              case measure => omega
              case rel => exact ⟨k + 1, _, _, by omega, by go_num, rfl, rfl, HR.out, HB3.out⟩
            · have hbi : BestIn (vsum rs ws) (l'.take k) s n := by
                rcases HBE.out with ⟨-, -, q⟩ | ⟨-, q⟩
                · omega
                · exact q
              by_cases hl2 : vsum rs ws l'[k] < n
              · have HR := Lib.hid (show Best0 (vsum rs ws) (l'.take (k + 1)) l'[k] (vsum rs ws l'[k]) from .inr ⟨hvr.1, by rw [HT.out]; exact hbi.less hl2⟩)
                clear hbi
                go_wp2
                go_roundg (l'.length - (k + 1))
                case measure => omega
                case rel => exact ⟨k + 1, _, _, by omega, by go_num, rfl, rfl, HR.out, HB3.out⟩
              · have HR := Lib.hid (show Best0 (vsum rs ws) (l'.take (k + 1)) s n from .inr ⟨by omega, by
                  rw [HT.out]
                  refine hbi.more ?_
                  rcases Int.lt_or_eq_of_le (show n ≤ vsum rs ws l'[k] by omega) with q | q
                  · exact .inl q
                  · refine .inr ⟨q, ?_⟩
                    obtain ⟨i, hi, hi2⟩ := List.mem_take_iff_getElem.1 hbi.1
                    rw [← hi2]
                    exact List.pairwise_iff_getElem.1 HSO.out i k (by omega) hlt (by omega)⟩)
                clear hbi
                go_wp2
                go_roundg (l'.length - (k + 1))
                case measure => omega
                case rel => exact ⟨k + 1, _, _, by omega, by go_num, rfl, rfl, HR.out, HB3.out⟩
          obtain ⟨-, -, -, c1, -⟩ := HOP.out wr (fun q hq => hb3.block q hq.2) j hjl
          have HS1 := Lib.hid (show l'[j].size ≤ 1000000 from hl _ ((HMEM.out _).1 (List.getElem_mem hjl)))
          have hmp : MapIs kStr wr w.heap.size (wM rs ws) rs.length := HM.out.below hb3
          have hlk : (Instr.lookup 45 (.map (some w.heap.size)) (.string l'[j]) false).run Try.prog wr = .ok (.int .i64 (wsum rs ws l'[j])) wr := by
            have := hmp.look Try.underlying45 Try.underlying9 (z := .int .i64 0) (by kernel_rfl) l'[j] false
            rwa [if_neg (by simp), wM_reads] at this
          have hlkd : (Instr.lookup 45 (.map (some w.heap.size)) (.string l'[j]) false).run Try.prog wr.drew = .ok (.int .i64 (wsum rs ws l'[j])) wr.drew := by
            have := (hmp.drewN 1).look Try.underlying45 Try.underlying9 (z := .int .i64 0) (by kernel_rfl) l'[j] false
            rwa [if_neg (by simp), wM_reads] at this
          have HMP := Lib.hid hmp
          have hwr := wsum_range rs ws l'[j]
          have HJ := Lib.hid (List.take_succ_eq_append_getElem hjl)
          have HPS := Lib.hid (psum_snoc (wsum rs ws) l'[k] l'[j] (l'.take j))
          have hdr := distS_range l'[k] l'[j]
          clear hb3 hmp hb2
          by_cases hpos : 0 < wsum rs ws l'[j]
          · have hm1 : 0 ≤ wsum rs ws l'[j] * distS l'[k] l'[j] := Int.mul_nonneg hwr.1 hdr.1
            have hm2 : wsum rs ws l'[j] * distS l'[k] l'[j] ≤ 1000000 * 96 := Int.mul_le_mul (by omega) hdr.2 hdr.1 (by omega)
            have HW1 := Lib.hid (show wrap64 (psum (wsum rs ws) l'[k] (l'.take j) + wrap64 (wsum rs ws l'[j] * distS l'[k] l'[j])) = psum (wsum rs ws) l'[k] (l'.take (j + 1)) by
              rw [IntWalk.wrap64_in (wsum rs ws l'[j] * distS l'[k] l'[j]) ⟨by omega, by omega⟩, IntWalk.wrap64_in _ ⟨by omega, by omega⟩, HJ.out, HPS.out])
            clear hm1 hm2
            go_wp2_with (fail)
            go_region_with (
              first
              | (go_at_call 16
                 (
                   refine (Distance_any _ _ _ HS0.out HS1.out).mono ?_
                   rintro e w4 ⟨rfl, hb4⟩
                   have hlk4 : (Instr.lookup 45 (.map (some w.heap.size)) (.string l'[j]) false).run Try.prog w4 = .ok (.int .i64 (wsum rs ws l'[j])) w4 := by
                     have := (MapIs.below (w := World.drewN wr 1) (HMP.out.drewN 1) hb4).look Try.underlying45 Try.underlying9 (z := .int .i64 0) (by kernel_rfl) l'[j] false
                     rwa [if_neg (by simp), wM_reads] at this
                   have HB4 := Lib.hid (show Below wr.heap.size wr w4 from Below.trans (b := wr.drew) (Below.drew (Below.refl _ _)) hb4)
                   clear hb4)))
            all_goals
              go_wp2
              go_roundg (l'.length - (j + 1))
              case measure => omega
              case rel => exact ⟨j + 1, by omega, by go_num, congrArg (Value.int .i64) HW1.out, HB3.out.trans (HB4.out.mono HB3.out.size)⟩
          · have HZ := Lib.hid (show psum (wsum rs ws) l'[k] (l'.take (j + 1)) = psum (wsum rs ws) l'[k] (l'.take j) by
              rw [HJ.out, HPS.out, show wsum rs ws l'[j] = 0 by omega]; omega)
            go_wp2
            go_roundg (l'.length - (j + 1))
            case measure => omega
            case rel => exact ⟨j + 1, by omega, by go_num, by rw [HZ.out], HB3.out⟩
    have hltw : k < ws.length := by have := HLL.out; omega
    obtain ⟨rfl, hx0, hx1, c0, -⟩ := ho wr (.of_below hst.bel) k hlt
    obtain ⟨rfl, hy0, d0, dr⟩ := hou wr hst.bel k hltw
    unfold i64ok at dr
    have HO := Lib.hid ho
    have HU := Lib.hid hou
    have hsz := Lib.hid (hl _ (List.getElem_mem hlt))
    have HT := Lib.hid (List.take_succ_eq_append_getElem hlt)
    have HW := Lib.hid (List.take_succ_eq_append_getElem hltw)
    have k0 : (0 : Int) ≤ (k : Int) := by omega
    have k1 : (k : Int) < (rs.length : Int) := by omega
    have k2 : (k : Int) < (ws.length : Int) := by omega
    have hlk : (Instr.lookup 45 (.map (some w.heap.size)) (.string rs[k]) true).run Try.prog wr = .ok (.tuple #[.int .i64 (wsum (rs.take k) (ws.take k) rs[k]), .bool (decide (rs[k] ∈ rs.take k))]) wr := by
      have := hst.map.look Try.underlying45 Try.underlying9 (z := .int .i64 0) (by kernel_rfl) rs[k] true
      rwa [if_pos rfl, wM_reads, wM_some] at this
    obtain ⟨oa, oc, rfl, ho1, ho2⟩ := hst.own.form
    unfold maxLen at ho2
    have hwr := hst.bel.size
    have hal := hst.len
    have hwz := hst.map.lt
    have hws := wsum_range (rs.take k) (ws.take k) rs[k]
    rw [List.length_take] at hal hws
    have hcl := clampW_range ws[k]
    have HV := Lib.hid (show IntKind.i64.wrap (wsum (rs.take k) (ws.take k) rs[k] + max 0 (min ws[k] 1000)) = wsum (rs.take k) (ws.take k) rs[k] + clampW ws[k] by
      have hc : clampW ws[k] = max 0 (min ws[k] 1000) := by unfold clampW; split <;> omega
      rw [← hc, wrap_in (by omega) (by omega)])
    clear ho hou
    by_cases hin : rs[k] ∈ rs.take k
    · have hdd : decide (rs[k] ∈ rs.take k) = true := by simpa using hin
      have HIN := Lib.hid hin
      rw [hdd] at hlk
      have hlk2 : (Instr.lookup 45 (.map (some w.heap.size)) (.string rs[k]) false).run Try.prog wr.drew = .ok (.int .i64 (wsum (rs.take k) (ws.take k) rs[k])) wr.drew := by
        have := (hst.map.drewN 1).look Try.underlying45 Try.underlying9 (z := .int .i64 0) (by kernel_rfl) rs[k] false
        rwa [if_neg (by simp), wM_reads] at this
      clear hdd hin hst
      go_wp2_with (fail)
      refine wp_region_still_tail 10 (by kernel_rfl) (by kernel_rfl) ?_
      simp only [List.take_succ_cons, List.take_zero, List.drop_succ_cons, List.drop_zero]
      change wpStill _ _ (World.drew _) _ _ _
      (repeat still_step)
      refine wpStill_nil ?_
      change wpList _ _ _ _ _ (World.drew _)
      refine wpList_put (.tmp 49) (.tmp 50) (.tmp 58) rfl 45 rfl Try.underlying45 Try.underlying9 (MapIs.drewN (HS.out.old HIN.out).map 1) rfl rs[k] (.string rs[k]) (.int .i64 (wsum (rs.take k) (ws.take k) rs[k] + clampW ws[k])) rfl rfl (congrArg (Value.int .i64) HV.out) ?_
      intro w3 hm3 hg3
      have HS3 := Lib.hid (VSt.put (wr := World.drew wr) ((HS.out.old HIN.out).below (Below.drew (Below.refl _ _))) (by rw [List.length_take, List.length_take]; omega) hm3 hg3)
      clear hm3 hg3
      go_wp2
      go_roundg (rs.length - (k + 1))
      case measure => omega
      case rel => exact ⟨k + 1, _, by omega, by go_num, by rw [HT.out, HW.out]; exact HS3.out⟩
    · have hdd : decide (rs[k] ∈ rs.take k) = false := by simpa using hin
      have HIN := Lib.hid hin
      rw [hdd] at hlk
      clear hdd hin hst
      go_wp2_with (
        at_builtin
        refine wpList_append_one (.tmp 45) (.tmp 47) rfl 32 rfl slStr rfl HS.out.own rfl (S := fun _ => False) ⟨rfl, by have := hsz.out; unfold maxLen; omega⟩ (fun _ h => h.elim) (by omega) (by unfold maxLen; omega) (by omega) ?_
        intro v' w2 ho2 hg2 hb2
        have hlk2 : (Instr.lookup 45 (.map (some w.heap.size)) (.string rs[k]) false).run Try.prog w2.drew = .ok (.int .i64 (wsum (rs.take k) (ws.take k) rs[k])) w2.drew := by
          have := ((HS.out.push HIN.out ho2 hb2).map.drewN 1).look Try.underlying45 Try.underlying9 (z := .int .i64 0) (by kernel_rfl) rs[k] false
          rwa [if_neg (by simp), wM_reads] at this
        have HS2 := Lib.hid (HS.out.push HIN.out ho2 hb2)
        have d0' := (hb2.cell (p := ⟨bu, offu + k, none⟩) (by show bu < _; omega)).trans d0
        clear ho2 hg2 hb2 hlk d0)
      refine wp_region_still_tail 10 (by kernel_rfl) (by kernel_rfl) ?_
      simp only [List.take_succ_cons, List.take_zero, List.drop_succ_cons, List.drop_zero]
      change wpStill _ _ (World.drew _) _ _ _
      (repeat still_step)
      refine wpStill_nil ?_
      change wpList _ _ _ _ _ (World.drew _)
      refine wpList_put (.tmp 49) (.tmp 50) (.tmp 58) rfl 45 rfl Try.underlying45 Try.underlying9 (MapIs.drewN (HS2.out).map 1) rfl rs[k] (.string rs[k]) (.int .i64 (wsum (rs.take k) (ws.take k) rs[k] + clampW ws[k])) rfl rfl (congrArg (Value.int .i64) HV.out) ?_
      intro w3 hm3 hg3
      have HS3 := Lib.hid (VSt.put (wr := World.drew w2) ((HS2.out).below (Below.drew (Below.refl _ _))) (by rw [List.length_take, List.length_take]; omega) hm3 hg3)
      clear hm3 hg3
      go_wp2
      go_roundg (rs.length - (k + 1))
      case measure => omega
      case rel => exact ⟨k + 1, _, by omega, by go_num, by rw [HT.out, HW.out]; exact HS3.out⟩
end Go.Proofs.Ythpmclhpagcbiaa
