/-
  Layer 44 (recon): the walk of amounts.
-/
import Derived.Test.YtmjbbpappigngaaGreatRecoP
import Derived.Test.YtmjbbpappigngaaGreatExcNet2
namespace Go.Proofs.YtmjbbpappigngaaGreat
open Go.RowKit Go.Tw Go.Tw.Exc Go.Maps
theorem i64_wf {n : Int} (h : i64ok n) : (Lit.int .i64 n).wf = true := by
  unfold i64ok at h
  simpa [Lit.wf, IntKind.min, IntKind.max, IntKind.signed, IntKind.bits] using h
def AmtMap (w : World) (m n : Nat) (D : DataW Unit) : Prop := w.ownsMap Tryz.prog 9 (plainElem Tryz.prog 3) m n D
theorem keyedS : Keyed Tryz.prog 9 := string_keyed Tryz.underlying9
/-- a map's block holds no cells -/
theorem map_no_cell {w : World} {m n : Nat} {D : DataW Unit} (h : AmtMap w m n D) (o : Nat) : w.cell? ⟨m, o, none⟩ = none := by
  obtain ⟨es, clock, hb, -⟩ := h
  simp [World.cell?, hb]
set_option maxRecDepth 100000 in
set_option maxHeartbeats 4000000 in
theorem amounts_any (l : List Rec) (v : Value) (w : World) (h : SlIs tRec (· < w.heap.size) w v l) (hlen : l.length ≤ 1000) (hc : ∀ r ∈ l, -1125899906842624 ≤ r.c ∧ r.c ≤ 1125899906842624) :
    Calls Tryz.prog 45 #[v] w fun e w' => (∃ m D, e = .returned (.map (some m)) ∧ AmtMap w' m l.length D ∧ Holds D (amtO l) ∧ w.heap.size ≤ m) ∧ Below w.heap.size w w' := by
  have HH := Lib.hid h
  have HCC := Lib.hid hc
  obtain ⟨ao, cp, bb, off, rfl, hl1, hl2, -⟩ := rec_open h
  unfold maxLen at hl2
  clear h hc
  have hmm := @run_makeMap Tryz.prog
  go_enter Tryz.func45, Tryz.ntmps45
  go_wp2_with (fail)
  clear hmm
  refine (net_any l _ _ (HH.out.step (bl_alloc (Below.refl _ _) _)) hlen HCC.out).mono ?_
  rintro e w2 ⟨⟨v2, l2, rfl, hperm, hsl⟩, hb2⟩
  have hm0 : AmtMap w2 w.heap.size 0 (.map []) := by
    obtain ⟨es, clock, hb, F⟩ := World.ownsMap_made (H := Unit) w Tryz.prog 9 (plainElem Tryz.prog 3)
    exact ⟨es, clock, Go.Tw.Below.at_old hb2 hb, F⟩
  have HL2 := Lib.hid (show l2.length ≤ l.length by rw [hperm.length_eq]; exact netGo_len l)
  obtain ⟨a2, c2, b2, o2, rfl, k1, k2, ho2⟩ := rec_open hsl
  have HOP := Lib.hid (show ∀ k (hk : k < l2.length), a2 = some ⟨b2, o2, none⟩ ∧ b2 ≠ w.heap.size ∧ b2 < w2.heap.size ∧ RecOk l2[k] ∧
      w2.cell? ⟨b2, o2 + k * 5, none⟩ = some (.int .i64 l2[k].k) ∧ w2.cell? ⟨b2, o2 + k * 5 + 1, none⟩ = some (.string l2[k].key) ∧ w2.cell? ⟨b2, o2 + k * 5 + 2, none⟩ = some (.int .i64 l2[k].t) ∧ w2.cell? ⟨b2, o2 + k * 5 + 3, none⟩ = some (.int .i64 l2[k].c) ∧ w2.cell? ⟨b2, o2 + k * 5 + 4, none⟩ = some (.int .i64 l2[k].y) from fun k hk => by
    obtain ⟨g1, -, g3, g4, q0, q1, q2, q3, q4⟩ := ho2 w2 (SameOn.refl _ _) k hk
    exact ⟨g1, (fun e => by rw [e, map_no_cell hm0] at q0; cases q0), g3, g4, q0, q1, q2, q3, q4⟩)
  have HB2 := Lib.hid (bl_trans (bl_alloc (Below.refl w.heap.size w) _) hb2)
  have HPM := Lib.hid hperm
  have HM0 := Lib.hid hm0
  have hw2 : w.heap.size < w2.heap.size := hm0.lt
  unfold maxLen at k2
  clear hsl ho2 hb2 hperm hm0
  go_wp2_with (fail)
  go_loopg [10] l2.length (fun g i wr => ∃ (k : Nat) (D : DataW Unit), k + g = l2.length ∧ i = .int .i64 k ∧ AmtMap wr w.heap.size k D ∧ Hid (Holds D fun s => ((l2.take k).find? fun r => decide (r.key = s)).map (·.c)) ∧ Below w.heap.size w wr ∧ Hid (∀ k, k < w2.heap.size → k ≠ w.heap.size → wr.heap[k]? = w2.heap[k]?) ∧ w2.heap.size ≤ wr.heap.size)
  case atStart => exact ⟨0, .map [], by omega, rfl, HM0.out, Lib.hid Holds.nil, HB2.out, Lib.hid (fun _ _ _ => rfl), Nat.le_refl _⟩
  case round =>
    clear HM0 HB2
    obtain ⟨k, D, hk, rfl, hm, HD, hbl, HSM, hz⟩ := hrel
    have HM := Lib.hid hm
    have HB := Lib.hid hbl
    clear hm hbl
    by_cases hlt : k < l2.length
    · obtain ⟨rfl, hbw, hbs, hok, q0, q1, q2, q3, q4⟩ := HOP.out k hlt
      have hsame := HSM.out b2 hbs hbw
      have d0 := (World.cell?_of_block (a := ⟨b2, o2 + k * 5, none⟩) hsame).trans q0
      have d1 := (World.cell?_of_block (a := ⟨b2, o2 + k * 5 + 1, none⟩) hsame).trans q1
      have d2 := (World.cell?_of_block (a := ⟨b2, o2 + k * 5 + 2, none⟩) hsame).trans q2
      have d3 := (World.cell?_of_block (a := ⟨b2, o2 + k * 5 + 3, none⟩) hsame).trans q3
      have d4 := (World.cell?_of_block (a := ⟨b2, o2 + k * 5 + 4, none⟩) hsame).trans q4
      obtain ⟨x, hx⟩ : ∃ x, l2[k] = x := ⟨_, rfl⟩
      have HXE := Lib.hid hx
      rw [hx] at d0 d1 d2 d3 d4 hok
      have HOK := Lib.hid hok
      have k0 : (0 : Int) ≤ (k : Int) := by omega
      have k1' : (k : Int) < (l2.length : Int) := by omega
      have hkm : k < maxLen := by have := HL2.out; unfold maxLen; omega
      have hmw : w.heap.size < wr.heap.size := HM.out.lt
      clear hx hok hsame q0 q1 q2 q3 q4
      have hkey := Go.WideMaps.keyOf_string_mk Tryz.underlying9 HOK.out.key
      have hval := plainElem_int (H := Unit) Tryz.underlying3 (i64_wf HOK.out.c)
      have hma := fun o => World.ownsMap.alloc HM.out o
      go_wp2_with (
        at_mapUpdate
        refine wpList_mapUpdate_own _ rfl _ _ _ 84 rfl 9 3 keyedS Tryz.underlying84 _ w.heap.size _ _ rfl (HM.out.alloc _) hkm _ _ (.string (kb x.key)) rfl rfl (Go.WideMaps.keyOf_string_mk Tryz.underlying9 HOK.out.key) (.lit (.int .i64 x.c)) [] (plainElem_int Tryz.underlying3 (i64_wf HOK.out.c)) ?_
        intro w3 hown3 hg3
        go_frame)
      go_roundg (l2.length - (k + 1))
      case measure => omega
      case rel =>
        refine ⟨k + 1, _, by omega, by go_num, hown3, Lib.hid ((HD.out.put HM.out.isMap x.key x.c).ext fun s => ?_), ?_, Lib.hid fun j h1 h2 => ?_, ?_⟩
        · rw [List.take_succ_eq_append_getElem hlt, HXE.out, List.find?_append]
          by_cases e : s = x.key
          · subst e
            have hn : (l2.take k).find? (fun r => decide (r.key = x.key)) = none := by
              rw [List.find?_eq_none]
              intro r hr
              have h1 := ((HPM.out.map (·.key)).nodup_iff.2 (net_is l).nod)
              have h2 : ((l2.take (k + 1)).map (·.key)).Nodup := h1.sublist ((List.take_sublist _ _).map _)
              rw [List.take_succ_eq_append_getElem hlt, HXE.out, List.map_append] at h2
              have h3 := (List.nodup_append.1 h2).2.2 r.key (List.mem_map_of_mem hr) x.key (by simp)
              simpa using h3
            rw [if_pos rfl, hn]; simp
          · rw [if_neg e]
            cases (l2.take k).find? fun r => decide (r.key = s) with
            | some r => rfl
            | none => simp; exact fun q => absurd q.symm e
        · exact (bl_alloc HB.out _).grown hg3 (by have := HB.out.size; simp; omega) (fun j e => by injection e with e; omega)
        · exact (hg3.block j (by simp; omega) (by intro e; injection e with e; omega)).trans ((Below.heap_alloc _ _ _ (by omega)).trans (HSM.out j h1 h2))
        · have := hg3.size; simp at this; omega
    · obtain rfl : k = l2.length := by omega
      have hkd : decide ((l2.length : Int) < (l2.length : Int)) = false := by simp
      have HE := Lib.hid (show Holds D (amtO l) from HD.out.ext fun s => by rw [List.take_length]; exact amtO_perm HPM.out s)
      clear hk hlt
      go_wp2_with (fail)
      go_ret
      exact ⟨⟨_, D, rfl, HM.out.mono HL2.out, HE.out, Nat.le_refl _⟩, HB.out⟩
end Go.Proofs.YtmjbbpappigngaaGreat
