/-
  Layer 6 (match): the walk of the reference's complete.
-/
import Derived.Test.YtepceaoccnmkiaaMatchRestR
import Derived.Test.YtepceaoccnmkiaaHeld
import Derived.Test.YtepceaoccnmkiaaIf
import Derived.Lib.QuietBelow
namespace Go.Tw.Match
open Go.RowKit Go.Tw
theorem OwnSl.low {α : Type} {T : Ty α} {e : TypeId} {B B' : Nat} {w : World} {v : Value} {l : List α} (h : OwnSl T e B w v l) (hB : B' ≤ B) : OwnSl T e B' w v l := by
  obtain ⟨css, h1, h2⟩ := h
  refine ⟨css, ⟨h1.1, ?_⟩, h2⟩
  rcases h1.2 with ⟨a, b⟩ | ⟨g, cap, cur, a, b, c⟩
  · exact .inl ⟨a, b⟩
  · exact .inr ⟨g, cap, cur, a, Nat.le_trans hB b, c⟩
theorem still_skip {P : Program} {ops : Array Oper} {w : World} {Q : Act → Prop} {a : Act} {o : Oper} {rest : List Oper} (hw : Region.wanted o (yielded ops a.tmps) = false) (h : wpStill P ops w Q rest (a.put o.dst undef)) : wpStill P ops w Q (o :: rest) a := by
  unfold wpStill
  rw [if_neg (by simp [hw])]
  exact h
theorem chain_get {m : Mat} : ∀ (a : List Int) (i mask t : Nat) (ht : t < a.length), chain m i mask a → a[t] ∈ choices m.col.length ∧ okJ m (i + t) a[t] (msk mask (a.take t)) = true
  | x :: a, i, mask, 0, _, h => ⟨h.1, h.2.1⟩
  | x :: a, i, mask, t + 1, ht, h => by
    have := chain_get a (i + 1) (nxt mask x) t (by simpa using ht) h.2.2
    rw [show i + 1 + t = i + (t + 1) by omega] at this
    simpa [msk] using this
theorem msk_lt {c : Nat} : ∀ (a : List Int) (mask : Nat), mask < 2 ^ c → (∀ x ∈ a, x < c) → msk mask a < 2 ^ c
  | [], mask, h, _ => h
  | x :: a, mask, h, hx => msk_lt a (nxt mask x) (nxt_lt h (hx x (by simp))) (fun y hy => hx y (by simp [hy]))
theorem choices_drop_last (c : Nat) : (choices c).drop c = [-1] := by
  unfold choices
  rw [List.drop_append_of_le_length (by simp [cols]), List.drop_eq_nil_of_le (by simp [cols])]
  rfl
theorem choices_get {c j : Nat} (h : j < c) (h' : j < (choices c).length) : (choices c)[j] = (j : Int) := by
  have e : (choices c)[j]? = some (j : Int) := by
    unfold choices cols
    rw [List.getElem?_append_left (by simpa using h)]
    simp [h]
  rw [List.getElem?_eq_getElem h'] at e
  exact Option.some.inj e
end Go.Tw.Match
namespace Go.Proofs.Ytepceaoccnmkiaa
open Go.RowKit Go.Tw Go.Tw.Match
def CompE (B : Nat) (m : Mat) (beg : List Int) (w : World) (e : Ending) : Prop := ∃ v, e = .returned v ∧ OwnSl tInt 3 B w v (beg ++ greedy m (opn m.row.length) (m.row.length - beg.length) beg.length (msk 0 beg))
set_option maxRecDepth 100000 in
set_option maxHeartbeats 60000000 in
theorem complete_any (m : Mat) (hok : Ok m) (vc vr vl vb : Value) (w : World) (h : MatIs w vc vr vl m) (B0 g : Nat) (bs : Nat → Nat) (hT : RTab B0 w g m.row.length (2 ^ m.col.length) bs 0 (finR m (opn m.row.length))) (beg : List Int) (hb : SlIs tInt (· < w.heap.size) w vb beg)
    (hch : chain m 0 0 beg) (hlen : beg.length ≤ m.row.length) (h0 : 0 ≤ mn (costs m (opn m.row.length) (m.row.length - beg.length) beg.length (msk 0 beg))) :
    Calls Try.prog 32 #[.agg #[vc, vr, vl], .slice (some ⟨g, 0, none⟩) (m.row.length + 1) (m.row.length + 1), vb] w fun e w' => CompE w.heap.size m beg w' e ∧ Below w.heap.size w w' := by
  have HM := Lib.hid h
  obtain ⟨ac, cc, bc, oc, ar, cr, br, or, al, cl, bl, ol, rfl, rfl, rfl, hm⟩ := h.at
  obtain ⟨cc1, cc2, cr1, cr2, cl1, cl2, -, -, -⟩ := hm
  clear h
  have c8 := hok.c8
  have n8 := hok.n8
  obtain ⟨all, hall⟩ : ∃ all, 2 ^ m.col.length = all := ⟨_, rfl⟩
  have hpos : 0 < all := by rw [← hall]; exact Nat.two_pow_pos _
  have hal : all ≤ 256 := by rw [← hall]; exact Nat.le_trans (Nat.pow_le_pow_right (by decide) c8) (by decide)
  have HALL := Lib.hid hall
  rw [hall] at hT
  clear hall
  have HT := Lib.hid hT
  have HCH := Lib.hid hch
  have HBG := Lib.hid hb
  have H0 := Lib.hid h0
  obtain ⟨ab, cb, bb, ob, rfl, cb1, cb2, -⟩ := Go.Tw.Match.ints_at hb
  unfold maxLen at cb2
  clear hT hch hb h0
  have HB := Lib.hid (BoxW.start w (.slice ac m.cost.length cc) (.slice ar m.row.length cr) (.slice al m.col.length cl))
  have hbl1 : (([] : List Int).length + beg.length) * 8 ≤ 140737488355328 := by rw [List.length_nil]; omega
  have hbl2 : ([] : List Int).length + beg.length ≤ maxLen := by rw [List.length_nil]; unfold maxLen; omega
  go_enter Try.func32, Try.ntmps32
  go_wp2_with (
    at_builtin
    refine wpList_append_old (.tmp 13) (.tmp 14) rfl 23 rfl slInt (B := w.heap.size + 1) rfl (OwnSl.nil tInt 3 (w.heap.size + 1) _) rfl (show SlIs tInt (· < w.heap.size + 1) (w.alloc (.cells #[.slice ac m.cost.length cc, .slice ar m.row.length cr, .slice al m.col.length cl] 25)) _ beg from HBG.out.keep (fun _ hk => Nat.lt_succ_of_lt hk) (.of_below (bl_alloc (Below.refl _ _) _))) hbl1 hbl2 (by simp) ?_
    intro v1 w1 ho1 hg1 hb1
    have HO1 := Lib.hid (show OwnSl tInt 3 (w.heap.size + 1) w1 v1 beg from ho1)
    have HB1 := Lib.hid (show BoxW w (.slice ac m.cost.length cc) (.slice ar m.row.length cr) (.slice al m.col.length cl) w1 from ⟨(hg1.block _ (lt_of_heap HB.out.1) (by intro e; cases e)).trans HB.out.1, (bl_alloc (Below.refl _ _) _).trans (hb1.mono (by omega))⟩)
    clear ho1 hg1 hb1)
  clear HB hbl1 hbl2
  obtain ⟨ao, co, bo, oo, rfl, co1, co2, hio⟩ := Go.Tw.Match.ints_at HO1.out.sl
  unfold maxLen at co2
  have HIO := Lib.hid hio; clear hio
  have HBT := Lib.hid (show ∀ w', Below w.heap.size w w' → RTab B0 w' g m.row.length all bs 0 (finR m (opn m.row.length)) from fun w' hb => HT.out.below hb)
  go_wp2
  go_loopg [9, 8] beg.length (fun g' i s wi => ∃ (k q : Nat), k + g' = beg.length ∧ i = .int .i64 k ∧ s = .int .i64 q ∧ q = msk 0 (beg.take k) ∧ w1 = wi)
  case atStart => exact ⟨0, 0, by omega, rfl, rfl, by simp [msk], rfl⟩
  case round =>
    obtain ⟨k, q, hk, rfl, rfl, hq, rfl⟩ := hrel
    by_cases hlt : k < beg.length
    · obtain ⟨rfl, -, x0, -⟩ := HIO.out _ (Below.refl _ _) k hlt
      obtain ⟨hcm, hcj⟩ := chain_get beg 0 0 k hlt HCH.out
      have hcr := choices_mem.1 hcm
      obtain ⟨hc1, hc2⟩ := hcr
      rw [Nat.zero_add, ← hq] at hcj
      have hq2 : q < all := by
        rw [hq, ← HALL.out]
        exact msk_lt _ _ (Nat.two_pow_pos _) (fun x hx => by
          obtain ⟨t, ht, rfl⟩ := List.getElem_of_mem (List.mem_of_mem_take hx)
          exact (choices_mem.1 (chain_get beg 0 0 t ht HCH.out).1).2)
      have hhas : hasC q beg[k] = false := by
        rw [okJ_has hok] at hcj
        simp at hcj
        exact hcj.1
      have HN := Lib.hid (show q + bitC beg[k] = msk 0 (beg.take (k + 1)) by
        rw [nxt_add (by omega) (by omega) hhas, List.take_succ_eq_append_getElem hlt, msk_snoc, ← hq])
      have hb8 : bitC beg[k] ≤ 256 := by
        have := HN.out
        unfold bitC
        split
        · omega
        · exact Nat.le_trans (Nat.pow_le_pow_right (by decide) (show beg[k].toNat ≤ 8 by omega)) (by decide)
      have k0 : (0 : Int) ≤ (k : Int) := by omega
      have k1 : (k : Int) < (beg.length : Int) := by omega
      have HBIT := Lib.hid (bit_any beg[k] w1 hc1 (by omega))
      obtain ⟨bb2, hbb2⟩ : ∃ b, bitC beg[k] = b := ⟨_, rfl⟩
      rw [hbb2] at HBIT HN hb8
      clear hcm hcj hq hhas hbb2
      go_wp2_with (go_at_call 35; refine (HBIT.out).mono ?_; rintro e w' ⟨rfl, rfl⟩)
      go_roundg (beg.length - (k + 1))
      case measure => omega
      case rel => exact ⟨k + 1, q + bb2, by omega, by go_num, by go_num, HN.out, rfl⟩
    · obtain rfl : k = beg.length := by omega
      rw [List.take_length] at hq
      have HQ := Lib.hid hq
      have hkd : decide ((beg.length : Int) < (beg.length : Int)) = false := by simp
      clear hq hlt hk
      have HNN := Lib.hid (show beg.length + (m.row.length - beg.length) = m.row.length by omega)
      have hq0 : q < all := by
        rw [HQ.out, ← HALL.out]
        exact msk_lt _ _ (Nat.two_pow_pos _) (fun x hx => by
          obtain ⟨t, ht, rfl⟩ := List.getElem_of_mem hx
          exact (choices_mem.1 (chain_get beg 0 0 t ht HCH.out).1).2)
      go_wp2
      go_loopg [10, 7, 8] (m.row.length - beg.length) (fun g' i' v s' wr => ∃ (i k q : Nat) (pre : List Int) (v0 : Value), k = g' ∧ v0 = v ∧ i + k = m.row.length ∧ i' = .int .i64 i ∧ s' = .int .i64 q ∧ q < all ∧ pre.length = i ∧ pre ++ greedy m (opn m.row.length) k i q = beg ++ greedy m (opn m.row.length) (m.row.length - beg.length) beg.length (msk 0 beg) ∧ 0 ≤ mn (costs m (opn m.row.length) k i q) ∧ OwnSl tInt 3 (w.heap.size + 1) wr v0 pre ∧ BoxW w (.slice ac m.cost.length cc) (.slice ar m.row.length cr) (.slice al m.col.length cl) wr)
      case atStart => exact ⟨beg.length, _, q, beg, _, rfl, rfl, HNN.out, rfl, rfl, hq0, rfl, by rw [HQ.out], by rw [HQ.out]; exact H0.out, HO1.out, HB1.out⟩
      case round =>
        clear HIO HO1 HB1 HQ hq0 HNN
        obtain ⟨i, k, q, pre, v0, rfl, rfl, hi, rfl, rfl, hq, hpl, hgr, hmn, hown, hbx⟩ := hrel
        have HGR := Lib.hid hgr
        have HMN := Lib.hid hmn
        have HOWN := Lib.hid hown
        have HB := Lib.hid hbx
        have HPL := Lib.hid hpl
        clear hgr hmn hown hbx hpl
        obtain ⟨x0, x1, x2, xf⟩ := blk3 HB.out.1
        rcases Nat.eq_zero_or_pos k with hk0 | hk0
        · have HE := Lib.hid (show CompE w.heap.size m beg wr (.returned v0) from ⟨v0, rfl, by rw [← HGR.out, hk0, greedy, List.append_nil]; exact OwnSl.low HOWN.out (by omega)⟩)
          have hid' : decide (i < m.row.length) = false := by simp; omega
          have HI := Lib.hid hi
          clear hi hk0
          go_wp2
          go_ret
          exact ⟨HE.out, HB.out.2⟩
        obtain ⟨k, rfl⟩ : ∃ k', k = k' + 1 := ⟨k - 1, by omega⟩
        obtain ⟨jj, hf, hjm, hld, hge⟩ := greedy_step hok HMN.out
        have HFD := Lib.hid hf
        have HGE := Lib.hid hge
        have HI := Lib.hid hi
        have hin : i < m.row.length := by omega
        have hi8 : i + k ≤ 7 := by omega
        have i0 : (0 : Int) ≤ (i : Int) := by omega
        have i1 : (i : Int) < (m.row.length : Int) := by omega
        clear hf hjm hld hge hi hk0
        go_wp2
        clear x0 x1 x2 xf
        go_loopg [12, 11] m.col.length (fun g'' j' z' wi => ∃ (j : Nat) (z : Int), j + g'' = m.col.length ∧ j' = .int .i64 j ∧ z' = .int .i64 z ∧ Hid ((z = -1 ∧ ((choices m.col.length).drop j).find? (leads m (opn m.row.length) k i q) = (choices m.col.length).find? (leads m (opn m.row.length) k i q)) ∨ (0 ≤ z ∧ (choices m.col.length).find? (leads m (opn m.row.length) k i q) = some z)) ∧ -1 ≤ z ∧ z < m.col.length ∧ Below wr.heap.size wr wi)
        case atStart => exact ⟨0, -1, by omega, rfl, rfl, Lib.hid (.inl ⟨rfl, rfl⟩), by omega, by omega, Below.refl _ _⟩
        case round =>
          rename_i wr0
          obtain ⟨wi, rfl⟩ : ∃ wi : World, wi = wr := ⟨_, rfl⟩
          obtain ⟨j, z, hj, rfl, rfl, HZ, hz1, hz2, hbb⟩ := hrel
          have HBB := Lib.hid hbb
          have HBi := Lib.hid (HB.out.below hbb)
          have HOi := Lib.hid (HOWN.out.below hbb)
          have hsz := hbb.size
          clear hbb
          have hexit : (¬ j < m.col.length ∨ 0 ≤ z) → Hid ((choices m.col.length).find? (leads m (opn m.row.length) k i q) = some z) := fun h => by
            rcases HZ.out with ⟨a, b⟩ | ⟨a, b⟩
            · have hjc : j = m.col.length := by omega
              rw [hjc, choices_drop_last, HFD.out, List.find?_cons] at b
              show (choices m.col.length).find? (leads m (opn m.row.length) k i q) = some z
              rw [HFD.out, a]
              split at b
              · exact b.symm
              · simp at b
            · exact b
          have HEX := Lib.hid hexit
          clear hexit
          obtain ⟨x0, x1, x2, xf⟩ := blk3 HBi.out.1
          by_cases hgo : j < m.col.length ∧ z < 0
          case neg =>
            have HF := HEX.out (by omega)
            have hjz : z = jj := by have := HF.out; rw [HFD.out] at this; simpa using this.symm
            have HJZ := Lib.hid hjz
            have hld := List.find?_some HF.out
            obtain ⟨l1, l2, l3⟩ := leads_spec hld
            have hhas : hasC q z = false := by
              unfold ok at l1
              rw [okJ_has hok] at l1
              simp at l1
              exact l1.2.1
            have hnx : nxt q z < all := by rw [← HALL.out]; exact nxt_lt (by rw [HALL.out]; exact hq) hz2
            have HN := Lib.hid (nxt_add (set := q) (by omega) (by omega) hhas)
            have HGG := Lib.hid (show (pre ++ [z]) ++ greedy m (opn m.row.length) k (i + 1) (nxt q z) = beg ++ greedy m (opn m.row.length) (m.row.length - beg.length) beg.length (msk 0 beg) by
              rw [← HGR.out, HGE.out, hjz]; simp)
            have HM2 := Lib.hid l2
            have HBIT := fun w0 => Lib.hid (bit_any z w0 hz1 (by omega))
            obtain ⟨bb2, hbb2⟩ : ∃ b, bitC z = b := ⟨_, rfl⟩
            rw [hbb2] at HN
            simp only [hbb2] at HBIT
            have hb8 : bb2 ≤ 256 := by have := HN.out; omega
            have z64 : i64ok z := by unfold i64ok; omega
            have hpre : pre.length + 1 ≤ 8 := by have := HPL.out; omega
            have HB2 := Lib.hid HBIT
            have HI2 := Lib.hid (show i + 1 + k = m.row.length by have := HI.out; omega)
            have hwz : w.heap.size + 1 ≤ wi.heap.size := lt_of_heap HBi.out.1
            clear hjz hld l1 l2 l3 hhas hbb2 HBIT
            by_cases hjc : j < m.col.length
            all_goals
              go_wp2_with (first
                | (go_at_call 35; refine ((HB2.out _).out).mono ?_; rintro e w' ⟨rfl, rfl⟩)
                | (at_builtin
                   refine wpList_append_one (.tmp 104) (.tmp 106) rfl 23 rfl slInt rfl HOi.out rfl (S := fun _ => False) (y := z) ⟨rfl, z64⟩ (fun _ h => h.elim) (by omega) (by unfold maxLen; omega) hwz ?_
                   intro v3 w3 ho3 hg3 hb3
                   have HO3 := Lib.hid ho3
                   have HB3 := Lib.hid (show BoxW w (.slice ac m.cost.length cc) (.slice ar m.row.length cr) (.slice al m.col.length cl) w3 from ⟨(hg3.block _ (by have := lt_of_heap HBi.out.1; simp; omega) (fun e => by have := (HOi.out.own_lt _ e.symm).1; omega)).trans (alloc1_old _ HBi.out.1), HBi.out.2.trans (hb3.mono (by omega))⟩)
                   clear ho3 hg3 hb3))
              go_roundg k
              case measure => omega
              case rel => exact ⟨i + 1, k, nxt q z, pre ++ [z], _, rfl, rfl, HI2.out, by go_num, by rw [← HN.out]; go_num, hnx, by rw [List.length_append, HPL.out]; rfl, HGG.out, HM2.out, HO3.out, HB3.out⟩
          obtain ⟨hjc, hz⟩ := hgo
          obtain rfl : z = -1 := by omega
          have hdrop : ((choices m.col.length).drop j).find? (leads m (opn m.row.length) k i q) = (choices m.col.length).find? (leads m (opn m.row.length) k i q) := by
            rcases HZ.out with h | h
            · exact h.2
            · omega
          have hcl : j < (choices m.col.length).length := by rw [choices_len]; omega
          have hno := fun h => find_drop (f := leads m (opn m.row.length) k i q) hcl hdrop h
          have hyes := fun h => find_here (f := leads m (opn m.row.length) k i q) hcl hdrop h
          rw [choices_get hjc hcl] at hno hyes
          have HNO := Lib.hid hno
          have HYES := Lib.hid hyes
          clear hno hyes hdrop hcl HZ HEX
          have hmk : nxt q (j : Int) < all := by rw [← HALL.out]; exact nxt_lt (by rw [HALL.out]; exact hq) (by omega)
          have HCELL := Lib.hid (show ∀ W, Below w.heap.size w W → W.cell? ⟨g, i, none⟩ = some (.slice (some ⟨bs i, 0, none⟩) all all) ∧ W.cell? ⟨g, i + 1, none⟩ = some (.slice (some ⟨bs (i + 1), 0, none⟩) all all) ∧ W.cell? ⟨bs i, q * 2, none⟩ = some (.int .i64 (mn (costs m (opn m.row.length) (k + 1) i q))) ∧ W.cell? ⟨bs (i + 1), nxt q (j : Int) * 2, none⟩ = some (.int .i64 (mn (costs m (opn m.row.length) k (i + 1) (nxt q (j : Int))))) from fun W hW => by
            have T := HBT.out W hW
            have e1 := (T.row i (Nat.zero_le _) (by omega)).cells hq
            have e2 := (T.row (i + 1) (Nat.zero_le _) (by omega)).cells hmk
            unfold finR at e1 e2
            rw [show m.row.length - i = k + 1 by have := HI.out; omega] at e1
            rw [show m.row.length - (i + 1) = k by have := HI.out; omega] at e2
            exact ⟨(T.at (Nat.zero_le _) (by omega)).1, (T.at (Nat.zero_le _) (by omega)).1, e1.1, e2.1⟩)
          obtain ⟨r, hr⟩ : ∃ r, mn (costs m (opn m.row.length) k (i + 1) (nxt q (j : Int))) = r := ⟨_, rfl⟩
          obtain ⟨cu, hcu⟩ : ∃ cu, mn (costs m (opn m.row.length) (k + 1) i q) = cu := ⟨_, rfl⟩
          obtain ⟨pc, hpc⟩ : ∃ pc, price m i (j : Int) = pc := ⟨_, rfl⟩
          have hpr := price_range hok i (j : Int)
          have hrr := mn_hi hok (opn m.row.length) k (i + 1) (nxt q (j : Int))
          have hcr := mn_hi hok (opn m.row.length) (k + 1) i q
          have HLD := Lib.hid (show leads m (opn m.row.length) k i q (j : Int) = (!hasC q (j : Int) && decide (0 ≤ pc) && decide (0 ≤ r) && decide (pc + r = cu)) by
            unfold leads ok
            rw [okF_opn hin, okJ_has hok, hr, hcu, hpc, Bool.true_and])
          have HPR := Lib.hid (show ∀ w5, Below w.heap.size w w5 → Calls Try.prog 27 #[.agg #[.slice ac m.cost.length cc, .slice ar m.row.length cr, .slice al m.col.length cl], .int .i64 i, .int .i64 j] w5 fun e w' => e = .returned (.int .i64 pc) ∧ Below w5.heap.size w5 w' from fun w5 hb => by
            rw [← hpc]; exact price_any m hok _ _ _ w5 i (j : Int) (HM.out.step hb) hin (by omega) (by omega))
          rw [hr, hcu] at HCELL
          rw [hr] at hrr
          rw [hcu] at hcr
          rw [hpc] at hpr
          have HHAS := Lib.hid (show ∀ w5, Calls Try.prog 34 #[.int .i64 q, .int .i64 j] w5 fun e w' => e = .returned (.bool (hasC q (j : Int))) ∧ w5 = w' from fun w5 => has_any q (j : Int) w5 (by omega) (by omega) (by omega))
          have HBIT := Lib.hid (show ∀ w5, Calls Try.prog 35 #[.int .i64 j] w5 fun e w' => e = .returned (.int .i64 (bitC (j : Int) : Nat)) ∧ w5 = w' from fun w5 => bit_any (j : Int) w5 (by omega) (by omega))
          have HNX := Lib.hid (fun h => nxt_add (set := q) (j := (j : Int)) (by omega) (by omega) h)
          clear hr hcu hpc
          have j0 : (0 : Int) ≤ (j : Int) := by omega
          have j1 : (j : Int) < (m.col.length : Int) := by omega
          have q0 : (0 : Int) ≤ (q : Int) := by omega
          have q1 : (q : Int) < (all : Int) := by omega
          obtain ⟨nx, hnx⟩ : ∃ nx, nxt q (j : Int) = nx := ⟨_, rfl⟩
          rw [hnx] at HCELL HNX hmk
          have nx0 : (0 : Int) ≤ (nx : Int) := by omega
          have nx1 : (nx : Int) < (all : Int) := by omega
          have i2 : (i : Int) + 1 < (m.row.length : Int) + 1 := by omega
          have i3 : (i : Int) < (m.row.length : Int) + 1 := by omega
          clear hnx
          have hwz : w.heap.size ≤ wi.heap.size := HBi.out.2.size
          go_upto_region 15 with (fail)
          go_cut [102] (fun v wx => v = .bool (leads m (opn m.row.length) k i q (j : Int)) ∧ Below wi.heap.size wi wx)
          case first =>
            obtain ⟨c1, c2, c3, c4⟩ := HCELL.out _ HBi.out.2
            have k0 := cell_regrown x0
            have k1 := cell_regrown x1
            have k2 := cell_regrown x2
            have k3 := cell_regrown c1
            have k4 := cell_regrown c2
            have k5 := cell_regrown c3
            have k6 := cell_regrown c4
            have cP := fun d os => Calls.regrown_of (HPR.out (Go.Sort.grow (redrawn wi d) os) (HBi.out.2.trans ((below_regrown wi d os).mono hwz)))
            have cH := fun d os => Calls.regrown_of ((HHAS.out (Go.Sort.grow (redrawn wi d) os)).mono (fun _ _ h => ⟨h.1, by rw [← h.2]; exact Below.refl _ _⟩))
            have cB := fun d os => Calls.regrown_of ((HBIT.out (Go.Sort.grow (redrawn wi d) os)).mono (fun _ _ h => ⟨h.1, by rw [← h.2]; exact Below.refl _ _⟩))
            have hs3 : IntKind.i64.wrap ((i : Int) + 1) = (i : Int) + 1 := wrap_in (by omega) (by omega)
            have hs4 : (0 : Int) ≤ (i : Int) + 1 := by omega
            have hs5 : ((i : Int) + 1).toNat = i + 1 := by omega
            clear x0 x1 x2 xf c1 c2 c3 c4
            cases hhs : hasC q (j : Int)
            case true =>
              rw [hhs] at HLD
              simp only [hhs] at cH
              have HR := Lib.hid (show leads m (opn m.row.length) k i q (j : Int) = false by rw [HLD.out]; simp)
              clear hhs
              refine QW.region (by kernel_rfl) (by kernel_rfl) ?_
              (iterate 5 (refine QW.yes (by kernel_rfl) (fun K hK => ?_)
                          go_simp
                          first
                            | (with_reducible refine hK _ ?_)
                            | (apply Exists.intro
                               refine ⟨fun _ => ?_, hK _ ?_⟩
                               (first
                                 | (go_at_call 27; exact cP _ _)
                                 | (go_at_call 34; exact cH _ _)
                                 | (go_at_call 35; exact cB _ _)))
                          clear hK K))
              (iterate 5 (refine QW.no (by kernel_rfl) ?_
                          (try simp only [Act.put])
                          (try simp only [List.setIfInBounds_toArray])
                          (repeat (first | simp only [List.set_cons_succ] | simp only [List.set_cons_zero]))))
              (iterate 2 (refine QW.yes (by kernel_rfl) (fun K hK => ?_)
                          go_simp
                          first
                            | (with_reducible refine hK _ ?_)
                            | (apply Exists.intro
                               refine ⟨fun _ => ?_, hK _ ?_⟩
                               (first
                                 | (go_at_call 27; exact cP _ _)
                                 | (go_at_call 34; exact cH _ _)
                                 | (go_at_call 35; exact cB _ _)))
                          clear hK K))
              (iterate 13 (refine QW.no (by kernel_rfl) ?_
                           (try simp only [Act.put])
                           (try simp only [List.setIfInBounds_toArray])
                           (repeat (first | simp only [List.set_cons_succ] | simp only [List.set_cons_zero]))))
              (iterate 2 (refine QW.yes (by kernel_rfl) (fun K hK => ?_)
                          go_simp
                          first
                            | (with_reducible refine hK _ ?_)
                            | (apply Exists.intro
                               refine ⟨fun _ => ?_, hK _ ?_⟩
                               (first
                                 | (go_at_call 27; exact cP _ _)
                                 | (go_at_call 34; exact cH _ _)
                                 | (go_at_call 35; exact cB _ _)))
                          clear hK K))
              (iterate 26 (refine QW.no (by kernel_rfl) ?_
                           (try simp only [Act.put])
                           (try simp only [List.setIfInBounds_toArray])
                           (repeat (first | simp only [List.set_cons_succ] | simp only [List.set_cons_zero]))))
              (iterate 1 (refine QW.yes (by kernel_rfl) (fun K hK => ?_)
                          go_simp
                          first
                            | (with_reducible refine hK _ ?_)
                            | (apply Exists.intro
                               refine ⟨fun _ => ?_, hK _ ?_⟩
                               (first
                                 | (go_at_call 27; exact cP _ _)
                                 | (go_at_call 34; exact cH _ _)
                                 | (go_at_call 35; exact cB _ _)))
                          clear hK K))
              refine QW.nil ?_
              intro _ hw'
              obtain ⟨⟨dq, osq⟩, hw''⟩ := hw'
              subst hw''
              clear k0 k1 k2 k3 k4 k5 k6 cH cB cP
              go_wp2_with (fail)
              go_meet
              exact ⟨congrArg Value.bool HR.out.symm, below_regrown wi dq osq⟩
            rw [hhs] at HLD
            simp only [hhs] at cH
            have hs6 : IntKind.i64.wrap ((q : Int) + ((bitC (j : Int) : Nat) : Int)) = (nx : Int) := by
              have h1 := HNX.out hhs
              have h2 : (q : Int) + ((bitC (j : Int) : Nat) : Int) = (nx : Int) := by omega
              rw [h2]; exact wrap_in (by omega) (by omega)
            clear hhs
            by_cases hp : pc < 0
            · have HR := Lib.hid (show leads m (opn m.row.length) k i q (j : Int) = false by rw [HLD.out, decide_eq_false (by omega)]; simp)
              have hpd : decide (0 ≤ pc) = false := by simpa using hp
              refine QW.region (by kernel_rfl) (by kernel_rfl) ?_
              (iterate 12 (refine QW.yes (by kernel_rfl) (fun K hK => ?_)
                           go_simp
                           first
                             | (with_reducible refine hK _ ?_)
                             | (apply Exists.intro
                                refine ⟨fun _ => ?_, hK _ ?_⟩
                                (first
                                  | (go_at_call 27; exact cP _ _)
                                  | (go_at_call 34; exact cH _ _)
                                  | (go_at_call 35; exact cB _ _)))
                           clear hK K))
              (iterate 13 (refine QW.no (by kernel_rfl) ?_
                           (try simp only [Act.put])
                           (try simp only [List.setIfInBounds_toArray])
                           (repeat (first | simp only [List.set_cons_succ] | simp only [List.set_cons_zero]))))
              (iterate 2 (refine QW.yes (by kernel_rfl) (fun K hK => ?_)
                          go_simp
                          first
                            | (with_reducible refine hK _ ?_)
                            | (apply Exists.intro
                               refine ⟨fun _ => ?_, hK _ ?_⟩
                               (first
                                 | (go_at_call 27; exact cP _ _)
                                 | (go_at_call 34; exact cH _ _)
                                 | (go_at_call 35; exact cB _ _)))
                          clear hK K))
              (iterate 26 (refine QW.no (by kernel_rfl) ?_
                           (try simp only [Act.put])
                           (try simp only [List.setIfInBounds_toArray])
                           (repeat (first | simp only [List.set_cons_succ] | simp only [List.set_cons_zero]))))
              (iterate 1 (refine QW.yes (by kernel_rfl) (fun K hK => ?_)
                          go_simp
                          first
                            | (with_reducible refine hK _ ?_)
                            | (apply Exists.intro
                               refine ⟨fun _ => ?_, hK _ ?_⟩
                               (first
                                 | (go_at_call 27; exact cP _ _)
                                 | (go_at_call 34; exact cH _ _)
                                 | (go_at_call 35; exact cB _ _)))
                          clear hK K))
              refine QW.nil ?_
              intro _ hw'
              obtain ⟨⟨dq, osq⟩, hw''⟩ := hw'
              subst hw''
              clear k0 k1 k2 k3 k4 k5 k6 cH cB cP
              go_wp2_with (fail)
              go_meet
              exact ⟨congrArg Value.bool HR.out.symm, below_regrown wi dq osq⟩
            have hpd : decide (0 ≤ pc) = true := by simpa using hp
            by_cases hr0 : r < 0
            · have HR := Lib.hid (show leads m (opn m.row.length) k i q (j : Int) = false by rw [HLD.out, decide_eq_false (show ¬ 0 ≤ r by omega)]; simp)
              have hrd : decide (0 ≤ r) = false := by simpa using hr0
              refine QW.region (by kernel_rfl) (by kernel_rfl) ?_
              (iterate 27 (refine QW.yes (by kernel_rfl) (fun K hK => ?_)
                           go_simp
                           first
                             | (with_reducible refine hK _ ?_)
                             | (apply Exists.intro
                                refine ⟨fun _ => ?_, hK _ ?_⟩
                                (first
                                  | (go_at_call 27; exact cP _ _)
                                  | (go_at_call 34; exact cH _ _)
                                  | (go_at_call 35; exact cB _ _)))
                           clear hK K))
              (iterate 26 (refine QW.no (by kernel_rfl) ?_
                           (try simp only [Act.put])
                           (try simp only [List.setIfInBounds_toArray])
                           (repeat (first | simp only [List.set_cons_succ] | simp only [List.set_cons_zero]))))
              (iterate 1 (refine QW.yes (by kernel_rfl) (fun K hK => ?_)
                          go_simp
                          first
                            | (with_reducible refine hK _ ?_)
                            | (apply Exists.intro
                               refine ⟨fun _ => ?_, hK _ ?_⟩
                               (first
                                 | (go_at_call 27; exact cP _ _)
                                 | (go_at_call 34; exact cH _ _)
                                 | (go_at_call 35; exact cB _ _)))
                          clear hK K))
              refine QW.nil ?_
              intro _ hw'
              obtain ⟨⟨dq, osq⟩, hw''⟩ := hw'
              subst hw''
              clear k0 k1 k2 k3 k4 k5 k6 cH cB cP
              go_wp2_with (fail)
              go_meet
              exact ⟨congrArg Value.bool HR.out.symm, below_regrown wi dq osq⟩
            have hrd : decide (0 ≤ r) = true := by simpa using hr0
            have hs7 : IntKind.i64.wrap (pc + r) = pc + r := wrap_in (by omega) (by omega)
            have hcase : (pc + r == cu) = true ∨ (pc + r == cu) = false := by cases (pc + r == cu) <;> simp
            rcases hcase with hc | hc
            all_goals
              have HR := Lib.hid (show leads m (opn m.row.length) k i q (j : Int) = (pc + r == cu) by
                rw [HLD.out, decide_eq_true (show 0 ≤ pc by omega), decide_eq_true (show 0 ≤ r by omega)]
                rw [Bool.eq_iff_iff]; simp)
              rw [hc] at HR
              refine QW.region (by kernel_rfl) (by kernel_rfl) ?_
              (iterate 54 (refine QW.yes (by kernel_rfl) (fun K hK => ?_)
                           go_simp
                           first
                             | (with_reducible refine hK _ ?_)
                             | (apply Exists.intro
                                refine ⟨fun _ => ?_, hK _ ?_⟩
                                (first
                                  | (go_at_call 27; exact cP _ _)
                                  | (go_at_call 34; exact cH _ _)
                                  | (go_at_call 35; exact cB _ _)))
                           clear hK K))
              refine QW.nil ?_
              intro _ hw'
              obtain ⟨⟨dq, osq⟩, hw''⟩ := hw'
              subst hw''
              clear k0 k1 k2 k3 k4 k5 k6 cH cB cP
              go_wp2_with (fail)
              go_meet
              exact ⟨congrArg Value.bool HR.out.symm, below_regrown wi dq osq⟩
          case rest =>
            obtain ⟨rfl, hb6⟩ := hcut
            have HB6 := Lib.hid (HBB.out.trans (hb6.mono hsz))
            clear hb6
            cases hb : leads m (opn m.row.length) k i q (j : Int)
            · have HR := Lib.hid (HNO.out hb)
              clear hb
              go_wp2
              go_roundg (m.col.length - (j + 1))
              case measure => omega
              case rel => exact ⟨j + 1, -1, by omega, by go_num, rfl, Lib.hid (.inl ⟨rfl, HR.out⟩), by omega, by omega, HB6.out⟩
            · have HR := Lib.hid (HYES.out hb)
              clear hb
              go_wp2
              go_roundg (m.col.length - (j + 1))
              case measure => omega
              case rel => exact ⟨j + 1, (j : Int), by omega, by go_num, rfl, Lib.hid (.inr ⟨j0, HR.out⟩), by omega, j1, HB6.out⟩
end Go.Proofs.Ytepceaoccnmkiaa
