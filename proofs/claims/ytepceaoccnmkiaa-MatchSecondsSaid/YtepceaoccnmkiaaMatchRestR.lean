/-
  Layer 6 (match): the walk of the reference's table.
-/
import Derived.Test.YtepceaoccnmkiaaMatchFirst
import Derived.Test.YtepceaoccnmkiaaMatchTurnP
import Derived.Deep.RegionHeld3
import Derived.StillTailTactics
namespace Go.Tw.Match
open Go.RowKit Go.Tw
theorem RTab.madeAt {B g : Nat} (w : World) (n all : Nat) (bs : Nat → Nat) (f : Nat → Nat → Int × Int) (t : TypeId) (A : Array Value) (hA : A.size = n + 1) (hB : B ≤ g) (hg : w.heap.size = g) : RTab B (w.alloc (.cells A t)) g n all bs (n + 1) f := by
  subst hg
  exact RTab.made w n all bs f t A hA hB
theorem RTab.start {B : Nat} {w : World} {m : Mat} {F : List Int} {g n all : Nat} {bs : Nat → Nat} {s : Nat} (h : RTab B w g n all bs (s + 1) (finR m F)) (hs : s ≤ n) (t : TypeId) (hB : B ≤ w.heap.size) :
    RTab B ((w.alloc (.cells (madeCells #[.int .i64 0, .int .i64 0] (all * 2)) t)).setCell ⟨g, s, none⟩ (.slice (some ⟨w.heap.size, 0, none⟩) all all)) g n all (fun r => if r = s then w.heap.size else bs r) s (valR m F s 0) := by
  have h1 : RTab B (w.alloc (.cells (madeCells #[.int .i64 0, .int .i64 0] (all * 2)) t)) g n all bs (s + 1) (finR m F) := h.below (bl_alloc (Below.refl _ _) _)
  refine (h1.hang hs (RRow.made w all t) hB (Nat.ne_of_gt h.ltg) (fun r a b => Nat.ne_of_lt (h.row r a b).lt)).congr fun r a b q hq => ?_
  unfold valR finR
  by_cases e : r = s
  · simp [e]
  · simp [e]
theorem RTab.drew {B : Nat} {w : World} {g n all : Nat} {bs : Nat → Nat} {i : Nat} {f : Nat → Nat → Int × Int} (h : RTab B w g n all bs i f) : RTab B w.drew g n all bs i f := h.keep rfl (fun _ _ _ => rfl)
theorem RTab.finish {B : Nat} {w : World} {m : Mat} {F : List Int} {g n all : Nat} {bs : Nat → Nat} {s : Nat} (h : RTab B w g n all bs s (valR m F s all)) : RTab B w g n all bs s (finR m F) := by
  refine h.congr fun r a b q hq => ?_
  unfold valR finR
  rw [if_neg (by omega)]
/-- while element k of row s is made -/
def curR (m : Mat) (F : List Int) (s k : Nat) (x y : Int) (r q : Nat) : Int × Int := if r = s ∧ q = k then (x, y) else valR m F s k r q
theorem curR_zero (m : Mat) (F : List Int) (s k : Nat) : curR m F s k 0 0 = valR m F s k := by
  funext r q
  unfold curR valR
  by_cases e : r = s ∧ q = k
  · rw [if_pos e, if_pos ⟨e.1, by omega⟩]
  · rw [if_neg e]
theorem RTab.zero {B : Nat} {w : World} {m : Mat} {F : List Int} {g n all : Nat} {bs : Nat → Nat} {s k : Nat} (h : RTab B w g n all bs s (valR m F s k)) : RTab B w g n all bs s (curR m F s k 0 0) := by rw [curR_zero]; exact h
theorem RTab.put1 {B : Nat} {w : World} {m : Mat} {F : List Int} {g n all : Nat} {bs : Nat → Nat} {s k : Nat} {x y : Int} (h : RTab B w g n all bs s (curR m F s k x y)) (hs : s ≤ n) (hk : k < all) (x' : Int) :
    RTab B (w.setCell ⟨bs s, k * 2, none⟩ (.int .i64 x')) g n all bs s (curR m F s k x' y) := by
  refine (h.set hs (k * 2) _ ((h.row s (Nat.le_refl s) hs).set1 hk x')).congr fun r a b q hq => ?_
  unfold curR
  by_cases e : r = s
  · subst e
    by_cases e2 : q = k
    · simp [e2]
    · simp [e2]
  · simp [e]
theorem RTab.put2 {B : Nat} {w : World} {m : Mat} {F : List Int} {g n all : Nat} {bs : Nat → Nat} {s k : Nat} {x y : Int} (h : RTab B w g n all bs s (curR m F s k x y)) (hs : s ≤ n) (hk : k < all) (y' : Int) :
    RTab B (w.setCell ⟨bs s, k * 2 + 1, none⟩ (.int .i64 y')) g n all bs s (curR m F s k x y') := by
  refine (h.set hs (k * 2 + 1) _ ((h.row s (Nat.le_refl s) hs).set2 hk y')).congr fun r a b q hq => ?_
  unfold curR
  by_cases e : r = s
  · subst e
    by_cases e2 : q = k
    · simp [e2]
    · simp [e2]
  · simp [e]
theorem RTab.fin {B : Nat} {w : World} {m : Mat} {F : List Int} {g n all : Nat} {bs : Nat → Nat} {s k : Nat} {x y : Int} (h : RTab B w g n all bs s (curR m F s k x y)) (hx : x = mn (costs m F (m.row.length - s) s k)) (hy : y = tieN (costs m F (m.row.length - s) s k)) : RTab B w g n all bs s (valR m F s (k + 1)) := by
  refine h.congr fun r a b q hq => ?_
  unfold curR valR
  by_cases e : r = s ∧ q = k
  · rw [if_pos e, if_neg (by omega), e.1, e.2, hx, hy]
  · rw [if_neg e]
    by_cases e2 : r = s ∧ k ≤ q
    · rw [if_pos e2, if_pos (by omega)]
    · rw [if_neg e2, if_neg (by omega)]
/-- its cells at element k of row s -/
theorem RTab.cur {B : Nat} {w : World} {m : Mat} {F : List Int} {g n all : Nat} {bs : Nat → Nat} {s k : Nat} {x y : Int} (h : RTab B w g n all bs s (curR m F s k x y)) (hs : s ≤ n) (hk : k < all) :
    w.cell? ⟨bs s, k * 2, none⟩ = some (.int .i64 x) ∧ w.cell? ⟨bs s, k * 2 + 1, none⟩ = some (.int .i64 y) ∧ w.frozen? ⟨bs s, k * 2, none⟩ = false ∧ w.frozen? ⟨bs s, k * 2 + 1, none⟩ = false := by
  have := (h.row s (Nat.le_refl s) hs).cells hk
  unfold curR at this
  simpa using this
theorem pair_set0 {w : World} {b : Nat} {a c v : Value} {t : TypeId} (h : w.heap[b]? = some (.cells #[a, c] t (0, 0))) : (w.setCell ⟨b, 0, none⟩ v).heap[b]? = some (.cells #[v, c] t (0, 0)) := by
  rw [heap_setCell_same _ _ 0 _ _ v h]; rfl
theorem pair_set1 {w : World} {b : Nat} {a c v : Value} {t : TypeId} (h : w.heap[b]? = some (.cells #[a, c] t (0, 0))) : (w.setCell ⟨b, 1, none⟩ v).heap[b]? = some (.cells #[a, v] t (0, 0)) := by
  rw [heap_setCell_same _ _ 1 _ _ v h]; rfl
end Go.Tw.Match
namespace Go.Proofs.Ytepceaoccnmkiaa
open Go.RowKit Go.Tw Go.Tw.Match
theorem Calls.flip {P : Program} {f : FuncId} {args : Array Value} {w : World} {v : Value} (h : Calls P f args w fun e w' => e = .returned v ∧ w = w') : Calls P f args w fun e w' => e = .returned v ∧ w' = w := h.mono fun _ _ h => ⟨h.1, h.2.symm⟩
theorem hmakeR (n : Nat) (hn : n ≤ 1000) (w : World) : (Instr.makeSlice 63 (.int .i64 (n : Int)) (.int .i64 (n : Int))).run Try.prog w = .ok (.slice (some ⟨w.heap.size, 0, none⟩) n n) (w.alloc (.cells (madeCells #[.int .i64 0, .int .i64 0] (n * 2)) 62)) := by
  obtain ⟨i, hi, hz, hs, hb⟩ := info_parts (show (Try.prog.info? 62).map (fun i => (i.zero, i.size, i.bytes)) = some (some (.agg #[.int .i64 0, .int .i64 0]), 2, 16) by kernel_rfl)
  have := run_make (P := Try.prog) w 63 62 i (.agg #[.int .i64 0, .int .i64 0]) Try.underlying63 hi hz .i64 .i64 (n : Int) (n : Int) (by omega) (Int.le_refl _) (by rw [hb]; omega) (by omega)
  rw [this, show ((n : Int)).toNat = n by omega, hs]
  rfl
theorem hmakeT (n : Nat) (hn : n ≤ 1000) (w : World) : (Instr.makeSlice 58 (.int .i64 ((n : Int) + 1)) (.int .i64 ((n : Int) + 1))).run Try.prog w = .ok (.slice (some ⟨w.heap.size, 0, none⟩) (n + 1) (n + 1)) (w.alloc (.cells (madeCells #[.slice none 0 0] (n + 1)) 63)) := by
  obtain ⟨i, hi, hz, hs, hb⟩ := info_parts (show (Try.prog.info? 63).map (fun i => (i.zero, i.size, i.bytes)) = some (some (.slice none 0 0), 1, 24) by kernel_rfl)
  have := run_make (P := Try.prog) w 58 63 i (.slice none 0 0) Try.underlying58 hi hz .i64 .i64 ((n : Int) + 1) ((n : Int) + 1) (by omega) (Int.le_refl _) (by rw [hb]; omega) (by omega)
  rw [this, show ((n : Int) + 1).toNat = n + 1 by omega, hs, Nat.mul_one]
  rfl
def RestE (B : Nat) (m : Mat) (F : List Int) (w : World) (e : Ending) : Prop := ∃ g bs, e = .returned (.slice (some ⟨g, 0, none⟩) (m.row.length + 1) (m.row.length + 1)) ∧ RTab B w g m.row.length (2 ^ m.col.length) bs 0 (finR m F)
theorem BoxW.drew {w wr : World} {vc vr vl : Value} (h : BoxW w vc vr vl wr) : BoxW w vc vr vl wr.drew := ⟨h.1, h.2.drew⟩
theorem bitC_all (c : Nat) : bitC (c : Int) = 2 ^ c := by unfold bitC; rw [if_neg (by omega)]; simp
set_option maxRecDepth 100000 in
set_option maxHeartbeats 16000000 in
theorem rests_any (m : Mat) (hok : Ok m) (F : List Int) (fi fj : Int) (hd : Dem m F fi fj) (vc vr vl : Value) (w : World) (h : MatIs w vc vr vl m) :
    Calls Try.prog 31 #[.agg #[vc, vr, vl], .int .i64 fi, .int .i64 fj] w fun e w' => RestE (w.heap.size + 1) m F w' e ∧ Below w.heap.size w w' := by
  have HM := Lib.hid h
  obtain ⟨ac, cc, bc, oc, ar, cr, br, or, al, cl, bl, ol, rfl, rfl, rfl, hm⟩ := h.at
  obtain ⟨cc1, cc2, cr1, cr2, cl1, cl2, -, -, hcol⟩ := hm
  have HCOL := Lib.hid hcol
  have HD := Lib.hid hd.2
  clear h hcol hd
  have c8 := hok.c8
  have n8 := hok.n8
  obtain ⟨all, hall⟩ : ∃ all, 2 ^ m.col.length = all := ⟨_, rfl⟩
  have hpos : 0 < all := by rw [← hall]; exact Nat.two_pow_pos _
  have hal : all ≤ 256 := by rw [← hall]; exact Nat.le_trans (Nat.pow_le_pow_right (by decide) c8) (by decide)
  have HALL := Lib.hid hall; clear hall
  have HBIT := fun w0 => Calls.flip (bit_any (m.col.length : Int) w0 (by omega) (by omega))
  rw [show bitC (m.col.length : Int) = all by rw [bitC_all]; exact HALL.out] at HBIT
  have HB := Lib.hid (BoxW.start w (.slice ac m.cost.length cc) (.slice ar m.row.length cr) (.slice al m.col.length cl))
  have HBI := Lib.hid HBIT; clear HBIT
  have n0 : (0 : Int) ≤ (m.row.length : Int) := by omega
  have hmkT := hmakeT m.row.length (by omega)
  go_enter Try.func31, Try.ntmps31
  go_wp2_with (go_quiet ((go_at_call 35; exact Calls.quiet_of_same (HBI.out _))))
  clear hmkT
  have hmkR := hmakeR all (by omega)
  go_loopg [10] (m.row.length + 1) (fun g' i' wr => ∃ (r : Nat) (z : Int) (bs : Nat → Nat), r = g' ∧ r ≤ m.row.length + 1 ∧ z = (r : Int) - 1 ∧ i' = .int .i64 z ∧ RTab (w.heap.size + 1) wr (w.heap.size + 1) m.row.length all bs r (finR m F) ∧ BoxW w (.slice ac m.cost.length cc) (.slice ar m.row.length cr) (.slice al m.col.length cl) wr)
  case atStart =>
    refine ⟨m.row.length + 1, _, fun _ => 0, rfl, Nat.le_refl _, by omega, rfl, ?_, ⟨?_, ?_⟩⟩
    · exact RTab.madeAt _ _ _ _ _ _ _ (by simp [madeCells]) (Nat.le_refl _) (by simp)
    · exact alloc1_old _ (heap_alloc_new _ _)
    · exact bl_alloc (bl_drewN (bl_alloc (Below.refl _ _) _) _) _
  case round =>
    obtain ⟨r, z, bs, rfl, hrn, hz, rfl, hT, hbx⟩ := hrel
    clear HB
    have HB := Lib.hid hbx; clear hbx
    have HT := Lib.hid hT; clear hT
    rcases Nat.eq_zero_or_pos r with hr0 | hr0
    · obtain rfl : z = -1 := by omega
      have HT0 := Lib.hid (show RTab (w.heap.size + 1) wr (w.heap.size + 1) m.row.length all bs 0 (finR m F) by rw [← hr0]; exact HT.out)
      clear hr0 hrn hz HT
      go_wp2
      go_ret
      exact ⟨⟨_, bs, rfl, by rw [HALL.out]; exact HT0.out⟩, HB.out.2⟩
    obtain ⟨s, rfl⟩ : ∃ s, r = s + 1 := ⟨r - 1, by omega⟩
    obtain rfl : z = (s : Int) := by omega
    have hsn : s ≤ m.row.length := by omega
    clear hr0 hz hrn
    obtain ⟨⟨v0, x0⟩, x1⟩ := HT.out.outerCell (r := s) hsn
    have hgl := HT.out.ltg
    have s0 : (0 : Int) ≤ (s : Int) := by omega
    have s1 : (s : Int) < (m.row.length : Int) + 1 := by omega
    have HGL := Lib.hid hgl
    obtain ⟨bs2, HT2⟩ : ∃ bs2, Hid (RTab (w.heap.size + 1) ((wr.alloc (.cells (madeCells #[.int .i64 0, .int .i64 0] (all * 2)) 62)).setCell ⟨w.heap.size + 1, s, none⟩ (.slice (some ⟨wr.heap.size, 0, none⟩) all all)) (w.heap.size + 1) m.row.length all bs2 s (valR m F s 0)) := ⟨_, Lib.hid (HT.out.start hsn _ (by omega))⟩
    have HB2 := Lib.hid ((HB.out.below (bl_alloc (Below.refl _ _) (.cells (madeCells #[.int .i64 0, .int .i64 0] (all * 2)) 62))).store (d := w.heap.size + 1) (off := s) (v := .slice (some ⟨wr.heap.size, 0, none⟩) all all) (Nat.le_refl _))
    go_wp2
    clear x0 x1 hgl HB HT
    go_loopg [11] all (fun g' ix wi => ∃ k : Nat, k + g' = all ∧ ix = .int .i64 k ∧ RTab (w.heap.size + 1) wi (w.heap.size + 1) m.row.length all bs2 s (valR m F s k) ∧ BoxW w (.slice ac m.cost.length cc) (.slice ar m.row.length cr) (.slice al m.col.length cl) wi)
    case atStart =>
      refine ⟨0, by omega, rfl, ?_, ?_⟩
      · rw [← World.setCell_alloc_past _ _ _ _ HGL.out]; exact HT2.out
      · rw [← World.setCell_alloc_past _ _ _ _ HGL.out]; exact HB2.out
    case round =>
      obtain ⟨wo, rfl⟩ : ∃ wo : World, wo = wr := ⟨_, rfl⟩
      obtain ⟨k, hk, rfl, hT, hbx⟩ := hrel
      clear HT2 HB2
      have HT := Lib.hid hT; clear hT
      have HB := Lib.hid hbx; clear hbx
      by_cases hlt : k < all
      case neg =>
        obtain rfl : k = all := by omega
        have HT3 := Lib.hid (HT.out.finish)
        have hd : decide ((k : Int) < (k : Int)) = false := by simp
        clear hlt hk
        go_wp2
        go_roundg s
        case measure => omega
        case rel => exact ⟨s, (s : Int) - 1, bs2, rfl, by omega, by omega, by go_num, HT3.out, HB.out⟩
      have k0 : (0 : Int) ≤ (k : Int) := by omega
      have k1 : (k : Int) < (all : Int) := by omega
      obtain ⟨y0, y1⟩ := HT.out.at (Nat.le_refl s) hsn
      have HC := Lib.hid HT.out.zero
      obtain ⟨z0, z1, z2, z3⟩ := HC.out.cur hsn hlt
      obtain ⟨x0, x1, x2, xf⟩ := blk3 HB.out.1
      have hgl := HT.out.ltg
      have hrl := (HT.out.row s (Nat.le_refl s) hsn).lt
      obtain ⟨hlow1, hlow2⟩ := HT.out.low s (Nat.le_refl s) hsn
      by_cases hsl : s = m.row.length
      · have hse : ((s : Int) == (m.row.length : Int)) = true := by rw [beq_iff_eq]; omega
        have HSL := Lib.hid hsl
        clear hsl
        have HT3 := Lib.hid (HC.out.put2 hsn hlt 1)
        have HB3 := Lib.hid (HB.out.store (d := bs2 s) (off := k * 2 + 1) (v := .int .i64 1) hlow1)
        go_wp2
        clear x0 x1 x2 xf y0 y1 z0 z1 z2 z3 hgl hrl HB HT HC
        go_loopg [12] m.col.length (fun g' ix wi => ∃ (j : Nat) (x : Int), j + g' = m.col.length ∧ ix = .int .i64 j ∧ x = freeS (fun t => k.testBit t) 0 (m.col.take j) ∧ RTab (w.heap.size + 1) wi (w.heap.size + 1) m.row.length all bs2 s (curR m F s k x 1) ∧ BoxW w (.slice ac m.cost.length cc) (.slice ar m.row.length cr) (.slice al m.col.length cl) wi)
        case atStart => exact ⟨0, 0, by omega, rfl, by simp [freeS], HT3.out, HB3.out⟩
        case round =>
          obtain ⟨wp, rfl⟩ : ∃ wp : World, wp = wr := ⟨_, rfl⟩
          obtain ⟨j, x, hj, rfl, hx, hT, hbx⟩ := hrel
          clear HT3 HB3
          have HX := Lib.hid hx; clear hx
          have HT := Lib.hid hT; clear hT
          have HB := Lib.hid hbx; clear hbx
          obtain ⟨x0, x1, x2, xf⟩ := blk3 HB.out.1
          by_cases hjl : j < m.col.length
          case neg =>
            obtain rfl : j = m.col.length := by omega
            rw [List.take_length] at HX
            have HT2 := Lib.hid (HT.out.fin (by rw [HX.out, HSL.out]; exact (leastF_last hok F k).symm) (by rw [HSL.out]; exact (waysF_last hok F k).symm))
            have hjd : decide ((m.col.length : Int) < (m.col.length : Int)) = false := by simp
            clear hjl hj
            go_wp2
            go_roundg (all - (k + 1))
            case measure => omega
            case rel => exact ⟨k + 1, by omega, by go_num, HT2.out, HB.out⟩
          obtain ⟨y0, y1⟩ := HT.out.at (Nat.le_refl s) hsn
          obtain ⟨z0, z1, z2, z3⟩ := HT.out.cur hsn hlt
          obtain ⟨rfl, hbc, c0, -⟩ := HCOL.out _ HB.out.2 j hjl
          have hcj := hok.lin _ (List.getElem_mem hjl)
          have hxr := freeS_range (u := fun t => k.testBit t) (l := m.col.take j) 0 (fun x hx => hok.lin x (List.mem_of_mem_take hx))
          rw [← HX.out, List.length_take] at hxr
          have HF := Lib.hid (show freeS (fun t => k.testBit t) 0 (m.col.take (j + 1)) = freeS (fun t => k.testBit t) 0 (m.col.take j) + if k.testBit j then 0 else m.col[j] by
            rw [List.take_succ_eq_append_getElem hjl, freeS_snoc, List.length_take, Nat.min_eq_left (by omega), Nat.zero_add])
          have j0 : (0 : Int) ≤ (j : Int) := by omega
          have j1 : (j : Int) < (m.col.length : Int) := by omega
          have HHAS := Lib.hid (has_any k (j : Int) wp (by omega) (by omega) (by omega))
          rw [show hasC k (j : Int) = k.testBit j by unfold hasC; simp] at HHAS
          cases htb : k.testBit j
          · rw [htb] at HHAS
            have HSS := Lib.hid (HT.out.put1 hsn hlt (x + m.col[j]))
            have HBS := Lib.hid (HB.out.store (d := bs2 s) (off := k * 2) (v := .int .i64 (x + m.col[j])) hlow1)
            have HN := Lib.hid (show x + m.col[j] = freeS (fun t => k.testBit t) 0 (m.col.take (j + 1)) by rw [HF.out, htb, HX.out]; simp)
            clear htb
            have hww : IntKind.i64.wrap (x + m.col[j]) = x + m.col[j] := wrap_in (by omega) (by omega)
            go_wp2_with (go_at_call 34; refine (HHAS.out).mono ?_; rintro e w' ⟨rfl, rfl⟩)
            refine wp_region_still_tail 21 (by kernel_rfl) (by kernel_rfl) ?_
            simp only [List.take_succ_cons, List.take_zero, List.drop_succ_cons, List.drop_zero]
            change wpStill _ _ (World.drew _) _ _ _
            (repeat still_step)
            refine wpStill_nil ?_
            change wpList _ _ _ _ _ (World.drew _)
            clear hww
            go_wp2
            go_roundg (m.col.length - (j + 1))
            case measure => omega
            case rel => exact ⟨j + 1, x + m.col[j], by omega, by go_num, HN.out, HSS.out.drew, HBS.out.drew⟩
          · rw [htb] at HHAS
            have HN := Lib.hid (show x = freeS (fun t => k.testBit t) 0 (m.col.take (j + 1)) by rw [HF.out, htb, HX.out]; simp)
            clear htb
            go_wp2_with (go_at_call 34; refine (HHAS.out).mono ?_; rintro e w' ⟨rfl, rfl⟩)
            go_roundg (m.col.length - (j + 1))
            case measure => omega
            case rel => exact ⟨j + 1, x, by omega, by go_num, HN.out, HT.out, HB.out⟩
      · have hsn2 : s < m.row.length := by omega
        have hse : ((s : Int) == (m.row.length : Int)) = false := by rw [beq_eq_false_iff_ne]; omega
        obtain ⟨K, hK⟩ : ∃ K, m.row.length = s + K + 1 := ⟨m.row.length - (s + 1), by omega⟩
        have HK := Lib.hid hK
        have hK8 : K ≤ 7 := by omega
        clear hK hsl z0 z1 z2 z3 y0 y1
        go_wp2
        clear x0 x1 x2 xf HC
        go_loopg [14] (m.col.length + 1) (fun g' iz wi => ∃ (t : Nat) (z x y : Int), t + g' = m.col.length + 1 ∧ z = (t : Int) - 1 ∧ iz = .int .i64 z ∧ x = mn (soFarR m F K s k t) ∧ y = tieN (soFarR m F K s k t) ∧ wi.heap[wo.heap.size]? = some (.cells #[.int .i64 x, .int .i64 y] 62 (0, 0)) ∧ Below wo.heap.size wo wi)
        case atStart => exact ⟨0, -1, -1, 0, by omega, rfl, rfl, rfl, rfl, heap_alloc_new _ _, bl_alloc (Below.refl _ _) _⟩
        case round =>
          obtain ⟨wp, rfl⟩ : ∃ wp : World, wp = wr := ⟨_, rfl⟩
          obtain ⟨t, z, x, y, ht, hz, rfl, hx, hy, hbk, hbb⟩ := hrel
          have HX := Lib.hid hx
          have HY := Lib.hid hy
          have HBK := Lib.hid hbk
          have HBB := Lib.hid hbb
          have HT2 := Lib.hid (HT.out.zero.below hbb)
          have HB2 := Lib.hid (HB.out.below hbb)
          have hsz := hbb.size
          clear hx hy hbk hbb
          obtain ⟨b0, b1, bf⟩ := blk2 HBK.out
          obtain ⟨x0, x1, x2, xf⟩ := blk3 HB2.out.1
          obtain ⟨y0, y1⟩ := HT2.out.at (Nat.le_refl s) hsn
          by_cases htl : t < m.col.length + 1
          case neg =>
            obtain rfl : z = (m.col.length : Int) := by omega
            have HE := Lib.hid (soFarR_end hok F K s k t (by omega))
            have hjd : decide ((m.col.length : Int) < (m.col.length : Int)) = false := by simp
            obtain ⟨z0, z1, z2, z3⟩ := HT2.out.cur hsn hlt
            clear htl hz
            go_wp2
            refine wp_region_still_tail 7 (by kernel_rfl) (by kernel_rfl) ?_
            simp only [List.take_succ_cons, List.take_zero, List.drop_succ_cons, List.drop_zero]
            change wpStill _ _ (World.drew _) _ _ _
            (repeat still_step)
            refine wpStill_nil ?_
            change wpList _ _ _ _ _ (World.drew _)
            go_wp2
            have HT3 := Lib.hid (((HT2.out.put1 hsn hlt x).put2 hsn hlt y).fin (by rw [HX.out, HE.out.1]; congr 2; have := HK.out; omega) (by rw [HY.out, HE.out.2]; congr 2; have := HK.out; omega))
            have HB3 := Lib.hid ((HB2.out.store (d := bs2 s) (off := k * 2) (v := .int .i64 x) hlow1).store (d := bs2 s) (off := k * 2 + 1) (v := .int .i64 y) hlow1)
            go_roundg (all - (k + 1))
            case measure => omega
            case rel => exact ⟨k + 1, by omega, by go_num, HT3.out.drew, HB3.out.drew⟩
          have hcl : t < (colsR m.col.length).length := by rw [colsR_len]; exact htl
          have HS := Lib.hid (soFarR_succ m F K s k hcl)
          rw [colsR_get hcl, ← hz] at HS
          have hz1 : -1 ≤ z := by omega
          have hz2 : z < (m.col.length : Int) := by omega
          have HZ := Lib.hid hz; clear hz
          have hff : (okF F s z = false ∧ ((s : Int) == fi) = true ∧ (z != fj) = true) ∨ (okF F s z = true ∧ ((s : Int) == fi) = false) ∨ (okF F s z = true ∧ ((s : Int) == fi) = true ∧ (z != fj) = false) := by
            rw [HD.out s z hsn2 hz1]
            by_cases q : (s : Int) = fi
            · by_cases q2 : z = fj
              · right; right; simp [q, q2]
              · left; simp [q, q2]
            · right; left; simp [q]
          have HHAS := Lib.hid (has_any k z wp (by omega) hz1 (by omega))
          have HNEXT := Lib.hid (show ∀ (h : soFarR m F K s k (t + 1) = soFarR m F K s k t), x = mn (soFarR m F K s k (t + 1)) ∧ y = tieN (soFarR m F K s k (t + 1)) from fun h => by rw [h]; exact ⟨HX.out, HY.out⟩)
          have HNO := Lib.hid (show ok m F s z k = false → x = mn (soFarR m F K s k (t + 1)) ∧ y = tieN (soFarR m F K s k (t + 1)) from fun h => HNEXT.out (by rw [HS.out]; unfold via; rw [if_neg (by rw [h]; simp), List.append_nil]))
          clear HNEXT
          rcases hff with ⟨q1, q2, q3⟩ | hff
          · have HR := Lib.hid (HNO.out (by unfold ok; rw [q1]; rfl))
            clear q1
            go_wp2
            go_roundg (m.col.length + 1 - (t + 1))
            case measure => omega
            case rel => exact ⟨t + 1, z + 1, x, y, by omega, by have := HZ.out; omega, by go_num, HR.out.1, HR.out.2, HBK.out, HBB.out⟩
          have HOJ := Lib.hid (okJ_has hok s z k)
          have hpr := price_range hok s z
          cases hhs : hasC k z
          case true =>
            rw [hhs] at HHAS HOJ
            have HR := Lib.hid (HNO.out (by unfold ok; rw [HOJ.out]; simp))
            clear hhs
            rcases hff with ⟨q1, q2⟩ | ⟨q1, q2, q3⟩
            all_goals
              clear q1
              go_wp2_with (go_at_call 34; refine (HHAS.out).mono ?_; rintro e w' ⟨rfl, rfl⟩)
              go_roundg (m.col.length + 1 - (t + 1))
              case measure => omega
              case rel => exact ⟨t + 1, z + 1, x, y, by omega, by have := HZ.out; omega, by go_num, HR.out.1, HR.out.2, HBK.out, HBB.out⟩
          rw [hhs] at HHAS HOJ
          have HNX := Lib.hid (nxt_add (set := k) (by omega) (by omega) hhs)
          obtain ⟨pc, hpc⟩ : ∃ pc, price m s z = pc := ⟨_, rfl⟩
          have HPC := Lib.hid hpc
          rw [hpc] at hpr HOJ
          have HPRI := Lib.hid (price_any m hok _ _ _ wp s z (HM.out.step HB2.out.2) hsn2 hz1 hz2)
          rw [hpc] at HPRI
          clear hhs hpc
          have HOK := Lib.hid (show okF F s z = true → ok m F s z k = decide (0 ≤ pc) from fun h => by unfold ok; rw [h, HOJ.out]; simp)
          have HOK2 := Lib.hid (HOK.out (by rcases hff with h | h; exact h.1; exact h.1))
          have hff2 : (((s : Int) == fi) = false) ∨ (((s : Int) == fi) = true ∧ (z != fj) = false) := by
            rcases hff with h | h
            · exact .inl h.2
            · exact .inr h.2
          clear hff HOK HOJ
          by_cases hneg : pc < 0
          · have HR := Lib.hid (HNO.out (by rw [HOK2.out]; simp; exact hneg))
            rcases hff2 with q2 | ⟨q2, q3⟩
            all_goals
              go_wp2_with (first
                | (go_at_call 34; refine (HHAS.out).mono ?_; rintro e w' ⟨rfl, rfl⟩)
                | (go_at_call 27; refine (HPRI.out).mono ?_; rintro e w' ⟨rfl, hb4⟩; have HB4 := Lib.hid hb4; clear hb4))
              go_roundg (m.col.length + 1 - (t + 1))
              case measure => omega
              case rel => exact ⟨t + 1, z + 1, x, y, by omega, by have := HZ.out; omega, by go_num, HR.out.1, HR.out.2, Below.at_old HB4.out HBK.out, HBB.out.trans (HB4.out.mono hsz)⟩
          have hp0 : 0 ≤ pc := by omega
          have HV := Lib.hid (show soFarR m F K s k (t + 1) = soFarR m F K s k t ++ (costs m F K (s + 1) (nxt k z)).map (pc + ·) by
            rw [HS.out]; unfold via; rw [if_pos (by rw [HOK2.out]; simpa using hp0), HPC.out])
          have hnx : nxt k z < all := by rw [← HALL.out]; exact nxt_lt (by rw [HALL.out]; exact hlt) hz2
          have hrr := mn_hi hok F K (s + 1) (nxt k z)
          have hrw := ways_hi hok F (s + 1) (nxt k z) (k := K) (by omega)
          have hxr := soFarR_hi hok F K s k t
          have hyr : 0 ≤ tieN (soFarR m F K s k t) ∧ tieN (soFarR m F K s k t) ≤ 43046721 := by
            unfold tieN
            have h1 := List.count_le_length (a := mn (soFarR m F K s k t)) (l := soFarR m F K s k t)
            have h2 := soFarR_len m F K s k t
            have h3 := pow9 (k := K + 1) hok.c8 (by omega)
            omega
          rw [← HX.out] at hxr
          rw [← HY.out] at hyr
          obtain ⟨r, hr⟩ : ∃ r, mn (costs m F K (s + 1) (nxt k z)) = r := ⟨_, rfl⟩
          obtain ⟨u, hu⟩ : ∃ u, tieN (costs m F K (s + 1) (nxt k z)) = u := ⟨_, rfl⟩
          have HRr := Lib.hid hr
          have HUu := Lib.hid hu
          rw [hr] at hrr
          rw [hu] at hrw
          have HVAL := Lib.hid (show valR m F s k (s + 1) (nxt k z) = (r, u) by
            unfold valR; rw [if_neg (by omega), show m.row.length - (s + 1) = K by have := HK.out; omega, hr, hu])
          clear hr hu HNO
          have k1' : ((nxt k z : Nat) : Int) < (all : Int) := by omega
          have k0' : (0 : Int) ≤ ((nxt k z : Nat) : Int) := by omega
          have HW := Lib.hid (show IntKind.i64.wrap ((k : Int) + ((bitC z : Nat) : Int)) = ((nxt k z : Nat) : Int) by
            have h1 := HNX.out
            have h2 : (k : Int) + ((bitC z : Nat) : Int) = ((nxt k z : Nat) : Int) := by omega
            rw [h2]; exact wrap_in (by omega) (by omega))
          have hs2 : (s : Int) + 1 < (m.row.length : Int) + 1 := by omega
          have HPR := Lib.hid (show ∀ w5, Below w.heap.size w w5 → Calls Try.prog 27 #[.agg #[.slice ac m.cost.length cc, .slice ar m.row.length cr, .slice al m.col.length cl], .int .i64 s, .int .i64 z] w5 fun e w' => e = .returned (.int .i64 pc) ∧ Below w5.heap.size w5 w' from fun w5 hb => by
            rw [← HPC.out]; exact price_any m hok _ _ _ w5 s z (HM.out.step hb) hsn2 hz1 hz2)
          clear HPRI b0 b1 bf
          rcases hff2 with q2 | ⟨q2, q3⟩
          all_goals
            go_upto_region 22 with (first
              | (go_at_call 34; refine (HHAS.out).mono ?_; rintro e w' ⟨rfl, rfl⟩)
              | (go_at_call 27
                 refine (HPR.out _ HB2.out.2).mono ?_
                 rintro e w4 ⟨rfl, hb4⟩
                 have HBX4 := Lib.hid (Below.at_old hb4 HBK.out)
                 have HBB4 := Lib.hid (HBB.out.trans (hb4.mono hsz))
                 have HT4 := Lib.hid (HT2.out.below hb4)
                 have HB24 := Lib.hid (HB2.out.below hb4)
                 clear hb4))
            clear x0 x1 x2 xf y0 y1
            go_cut [15] (fun v wx => v = .pointer (some ⟨w4.heap.size, 0, none⟩) ∧ wx = (w4.alloc (.cells #[.int .i64 r, .int .i64 u] 62)).drew)
            case first =>
              obtain ⟨f0, f1, f2, ff⟩ := blk3 HB24.out.1
              obtain ⟨g0, g1⟩ := HT4.out.at (r := s + 1) (by omega) (by omega)
              obtain ⟨h0, h1, h2, h3⟩ := (HT4.out.row (s + 1) (by omega) (by omega)).cells hnx
              have hcur : curR m F s k 0 0 (s + 1) (nxt k z) = (r, u) := by unfold curR; rw [if_neg (by omega), HVAL.out]
              rw [hcur] at h0 h1
              clear hcur
              have hs3 : IntKind.i64.wrap ((s : Int) + 1) = (s : Int) + 1 := wrap_in (by omega) (by omega)
              have hs4 : (0 : Int) ≤ (s : Int) + 1 := by omega
              have hs5 : ((s : Int) + 1).toNat = s + 1 := by omega
              have hs6 := HW.out
              go_region_held3 (fun w' => w'.cell? ⟨w.heap.size + 1, s + 1, none⟩ = some (.slice (some ⟨bs2 (s + 1), 0, none⟩) all all) ∧ w'.cell? ⟨bs2 (s + 1), nxt k z * 2, none⟩ = some (.int .i64 r) ∧ w'.cell? ⟨bs2 (s + 1), nxt k z * 2 + 1, none⟩ = some (.int .i64 u)) (go_keep)
                ((go_at_call 35; refine (bit_any z _ hz1 (by omega)).mono ?_; rintro e w' ⟨rfl, rfl⟩))
              all_goals
                go_wp2_with (fail)
                go_meet
                exact ⟨rfl, rfl⟩
            case rest =>
              obtain ⟨rfl, hw5⟩ := hcut
              have HBX5 := Lib.hid (show wc.heap[wo.heap.size]? = some (.cells #[.int .i64 x, .int .i64 y] 62 (0, 0)) by rw [hw5]; exact alloc1_old _ HBX4.out)
              have HBY5 := Lib.hid (show wc.heap[w4.heap.size]? = some (.cells #[.int .i64 r, .int .i64 u] 62 (0, 0)) by rw [hw5]; exact heap_alloc_new _ _)
              have HBB5 := Lib.hid (show Below wo.heap.size wo wc by rw [hw5]; exact Below.drew (bl_alloc HBB4.out _))
              have HB25 := Lib.hid (show BoxW w (.slice ac m.cost.length cc) (.slice ar m.row.length cr) (.slice al m.col.length cl) wc by rw [hw5]; exact (HB24.out.below (bl_alloc (Below.refl _ _) (.cells #[.int .i64 r, .int .i64 u] 62))).drew)
              have hlt4 := lt_of_heap HBX4.out
              have hne4 : ¬ wo.heap.size = w4.heap.size := by omega
              have hne5 : ¬ w4.heap.size = wo.heap.size := by omega
              clear hw5 HBX4 HBB4 HT4 HB24
              obtain ⟨w5, rfl⟩ : ∃ w5, w5 = wc := ⟨_, rfl⟩
              go_upto_region 23 with (fail)
              go_cut [16] (fun v wx => v = .int .i64 (pc + r) ∧ Below w5.heap.size w5 wx)
              case first =>
                obtain ⟨x0, x1, x2, xf⟩ := blk3 HB25.out.1
                obtain ⟨y0, y1, yf⟩ := blk2 HBY5.out
                have hs3 : IntKind.i64.wrap (pc + r) = pc + r := wrap_in (by omega) (by omega)
                go_region_held3 (fun w' => w'.cell? ⟨w.heap.size, 0, none⟩ = some (.slice ac m.cost.length cc) ∧ w'.cell? ⟨w.heap.size, 1, none⟩ = some (.slice ar m.row.length cr) ∧ w'.cell? ⟨w.heap.size, 2, none⟩ = some (.slice al m.col.length cl) ∧ w'.cell? ⟨w4.heap.size, 0, none⟩ = some (.int .i64 r)) (go_keep)
                  ((go_at_call 27
                    refine (HPR.out _ (Below.drew HB25.out.2)).mono ?_
                    rintro e w6 ⟨rfl, hb6⟩
                    have HB6 := Lib.hid (Below.trans (b := w5.drew) (Below.drew (Below.refl w5.heap.size w5)) hb6)
                    obtain ⟨e0, e1, e2, -⟩ := blk3 (HB25.out.below HB6.out).1
                    obtain ⟨e3, -, -⟩ := blk2 (Below.at_old HB6.out HBY5.out)
                    clear hb6))
                clear hs3
                all_goals
                  go_wp2_with (fail)
                  go_meet
                  exact ⟨rfl, HB6.out⟩
              case rest =>
                obtain ⟨rfl, hb6⟩ := hcut
                have HBX := Lib.hid (Below.at_old hb6 HBX5.out)
                have HBY := Lib.hid (Below.at_old hb6 HBY5.out)
                have HBB6 := Lib.hid (HBB5.out.trans (hb6.mono (HBB5.out.size)))
                clear hb6
                obtain ⟨x0, x1, xf⟩ := blk2 HBX.out
                obtain ⟨y0, y1, yf⟩ := blk2 HBY.out
                have hcase : r < 0 ∨ (0 ≤ r ∧ x < 0) ∨ (0 ≤ r ∧ 0 ≤ x ∧ pc + r < x) ∨ (0 ≤ r ∧ 0 ≤ x ∧ x = pc + r) ∨ (0 ≤ r ∧ 0 ≤ x ∧ x < pc + r) := by omega
                rcases hcase with w1 | ⟨w1, w2⟩ | ⟨w1, w2, w3⟩ | ⟨w1, w2, w3⟩ | ⟨w1, w2, w3⟩
                · have HR := Lib.hid (show soFarR m F K s k (t + 1) = soFarR m F K s k t by
                    rw [HV.out]; exact mn_none (costs_nonneg hok F _ _ _) (by rw [HRr.out]; exact w1))
                  go_wp2
                  go_roundg (m.col.length + 1 - (t + 1))
                  case measure => omega
                  case rel => exact ⟨t + 1, z + 1, x, y, by omega, by have := HZ.out; omega, by go_num, by rw [HR.out]; exact HX.out, by rw [HR.out]; exact HY.out, HBX.out, HBB6.out⟩
                · have HR := Lib.hid (show mn (soFarR m F K s k (t + 1)) = pc + r ∧ tieN (soFarR m F K s k (t + 1)) = u by
                    have h := mn_less (l := soFarR m F K s k t) (c := pc) (soFarR_nonneg hok F K s k t) (costs_nonneg hok F K (s + 1) (nxt k z)) hp0 (by rw [HRr.out]; omega) (.inl (by rw [← HX.out]; exact w2))
                    rw [← HV.out, HRr.out, HUu.out] at h
                    exact h)
                  have HBX2 := Lib.hid (pair_set1 (v := .int .i64 u) (pair_set1 (v := .int .i64 0) (pair_set0 (v := .int .i64 (pc + r)) HBX.out)))
                  have HBB7 := Lib.hid (bl_set (p := ⟨wo.heap.size, 1, none⟩) (bl_set (p := ⟨wo.heap.size, 1, none⟩) (bl_set (p := ⟨wo.heap.size, 0, none⟩) HBB6.out (.int .i64 (pc + r)) (Nat.le_refl _)) (.int .i64 0) (Nat.le_refl _)) (.int .i64 u) (Nat.le_refl _))
                  go_wp2
                  go_roundg (m.col.length + 1 - (t + 1))
                  case measure => omega
                  case rel => exact ⟨t + 1, z + 1, pc + r, u, by omega, by have := HZ.out; omega, by go_num, HR.out.1.symm, HR.out.2.symm, HBX2.out, HBB7.out⟩
                · have HR := Lib.hid (show mn (soFarR m F K s k (t + 1)) = pc + r ∧ tieN (soFarR m F K s k (t + 1)) = u by
                    have h := mn_less (l := soFarR m F K s k t) (c := pc) (soFarR_nonneg hok F K s k t) (costs_nonneg hok F K (s + 1) (nxt k z)) hp0 (by rw [HRr.out]; omega) (.inr (by rw [HRr.out, ← HX.out]; exact w3))
                    rw [← HV.out, HRr.out, HUu.out] at h
                    exact h)
                  have HBX2 := Lib.hid (pair_set1 (v := .int .i64 u) (pair_set1 (v := .int .i64 0) (pair_set0 (v := .int .i64 (pc + r)) HBX.out)))
                  have HBB7 := Lib.hid (bl_set (p := ⟨wo.heap.size, 1, none⟩) (bl_set (p := ⟨wo.heap.size, 1, none⟩) (bl_set (p := ⟨wo.heap.size, 0, none⟩) HBB6.out (.int .i64 (pc + r)) (Nat.le_refl _)) (.int .i64 0) (Nat.le_refl _)) (.int .i64 u) (Nat.le_refl _))
                  go_wp2
                  go_roundg (m.col.length + 1 - (t + 1))
                  case measure => omega
                  case rel => exact ⟨t + 1, z + 1, pc + r, u, by omega, by have := HZ.out; omega, by go_num, HR.out.1.symm, HR.out.2.symm, HBX2.out, HBB7.out⟩
                · have HR := Lib.hid (show mn (soFarR m F K s k (t + 1)) = x ∧ tieN (soFarR m F K s k (t + 1)) = y + u by
                    have h := mn_same (l := soFarR m F K s k t) (c := pc) (soFarR_nonneg hok F K s k t) (costs_nonneg hok F K (s + 1) (nxt k z)) hp0 (by rw [HRr.out]; omega) (by rw [← HX.out]; omega) (by rw [HRr.out, ← HX.out]; exact w3.symm)
                    rw [← HV.out] at h
                    exact ⟨h.1.trans HX.out.symm, h.2.trans (by rw [← HY.out, HUu.out])⟩)
                  have hq1 : ¬ x < pc + r := by omega
                  have hq2 : ¬ pc + r < x := by omega
                  clear w3
                  have HBX2 := Lib.hid (pair_set1 (v := .int .i64 (y + u)) HBX.out)
                  have HBB7 := Lib.hid (bl_set (p := ⟨wo.heap.size, 1, none⟩) HBB6.out (.int .i64 (y + u)) (Nat.le_refl _))
                  go_wp2
                  go_roundg (m.col.length + 1 - (t + 1))
                  case measure => omega
                  case rel => exact ⟨t + 1, z + 1, x, y + u, by omega, by have := HZ.out; omega, by go_num, HR.out.1.symm, HR.out.2.symm, HBX2.out, HBB7.out⟩
                · have HR := Lib.hid (show mn (soFarR m F K s k (t + 1)) = x ∧ tieN (soFarR m F K s k (t + 1)) = y by
                    have h := mn_more (l := soFarR m F K s k t) (c := pc) (soFarR_nonneg hok F K s k t) (costs_nonneg hok F K (s + 1) (nxt k z)) hp0 (by rw [HRr.out]; omega) (by rw [← HX.out]; omega) (by rw [HRr.out, ← HX.out]; exact w3)
                    rw [← HV.out] at h
                    exact ⟨h.1.trans HX.out.symm, h.2.trans HY.out.symm⟩)
                  go_wp2
                  go_roundg (m.col.length + 1 - (t + 1))
                  case measure => omega
                  case rel => exact ⟨t + 1, z + 1, x, y, by omega, by have := HZ.out; omega, by go_num, HR.out.1.symm, HR.out.2.symm, HBX.out, HBB6.out⟩
end Go.Proofs.Ytepceaoccnmkiaa
