/-
  Layer 33 (account): the reference's Check, CheckAll; the laws' right, config.
-/
import Derived.Test.YtifcelebfagjbaaGreatDoorPoRq
import Derived.Test.YtifcelebfagjbaaGreatDoorMgW
namespace Go.Proofs.YtifcelebfagjbaaGreatDoor
open Go.RowKit Go.Tw Go.Tw.Ord Go.Tw.Po Go.Sort
/-- an account in a box -/
def AB (n : Nat) (a : Acc) (hv : Value) (wr : World) : Prop := wr.heap[n]? = some (.cells #[.string a.nm, .string a.ag, .bool a.pre, hv, .int .i64 a.r1, .int .i64 a.r2, .int .i64 a.r3, .int .i64 a.r4, .bool a.ex] 96 (0, 0))
theorem AB.step {n : Nat} {a : Acc} {hv : Value} {w w' : World} (h : AB n a hv w) (hb : Below w.heap.size w w') : AB n a hv w' := (hb.block _ (lt_of_heap h)).trans h
theorem AB.c {n : Nat} {a : Acc} {hv : Value} {w : World} (h : AB n a hv w) : w.cell? ⟨n, 0, none⟩ = some (.string a.nm) ∧ w.cell? ⟨n, 1, none⟩ = some (.string a.ag) ∧ w.cell? ⟨n, 3, none⟩ = some hv :=
  ⟨cell_of_row _ _ 0 _ _ _ h, cell_of_row _ _ 1 _ _ _ h, cell_of_row _ _ 3 _ _ _ h⟩
set_option maxRecDepth 100000 in
set_option maxHeartbeats 4000000 in
theorem check33_any (a : Acc) (hv : Value) (w : World) (h : SlIs tOw (· < w.heap.size) w hv a.ow) (hp : PltOk a.ow) :
    Calls Tryz.prog 60 #[.agg #[.string a.nm, .string a.ag, .bool a.pre, hv, .int .i64 a.r1, .int .i64 a.r2, .int .i64 a.r3, .int .i64 a.r4, .bool a.ex]] w fun e w' => ChkI (a.nm.size ≤ 12) e ∧ Below w.heap.size w w' := by
  have HA0 := Lib.hid (show AB w.heap.size a hv _ from heap_alloc_new w (.cells #[.string a.nm, .string a.ag, .bool a.pre, hv, .int .i64 a.r1, .int .i64 a.r2, .int .i64 a.r3, .int .i64 a.r4, .bool a.ex] 96))
  have HB0 := Lib.hid (bl_alloc (Below.refl w.heap.size w) (.cells #[.string a.nm, .string a.ag, .bool a.pre, hv, .int .i64 a.r1, .int .i64 a.r2, .int .i64 a.r3, .int .i64 a.r4, .bool a.ex] 96))
  obtain ⟨ao, cap, bi, off, rfl, hl, hm, ho⟩ := ow_open h
  unfold maxLen at hm
  have HO := Lib.hid ho
  have HS := Lib.hid h
  have HP := Lib.hid hp
  obtain ⟨x0, x1, x3⟩ := HA0.out.c
  have HI1 := Lib.hid (fun W => isName_any a.nm W)
  have HI2 := Lib.hid (fun W => isName_any a.ag W)
  clear h ho hp
  go_enter Tryz.func60, Tryz.ntmps60
  go_wp2_with (fail)
  with_reducible refine (HI1.out _).mono ?_
  rintro r w1 ⟨⟨b, rfl, hb⟩, hb1⟩
  have HN := Lib.hid hb
  clear hb
  have HB1 := Lib.hid (bl_trans HB0.out hb1)
  have HA1 := Lib.hid (HA0.out.step hb1)
  clear hb1 HB0 HA0 x0 x1 x3
  obtain ⟨x0, x1, x3⟩ := HA1.out.c
  cases b with
  | false =>
    go_wp2
    go_ret
    exact ⟨⟨_, rfl, fun h => absurd h (by decide)⟩, HB1.out⟩
  | true =>
  have HN12 := Lib.hid (HN.out (by trivial))
  clear HN
  by_cases h64 : 64 < a.ow.length
  · have q64 : (64 : Int) < (a.ow.length : Int) := by omega
    obtain ⟨q, hq⟩ : ∃ q, a.ag.toList.isEmpty = q := ⟨_, rfl⟩
    clear h64
    cases q with
    | true =>
      go_wp2
      go_ret
      exact ⟨⟨_, rfl, fun h => absurd h (by decide)⟩, HB1.out⟩
    | false =>
      go_wp2_with (fail)
      with_reducible refine (HI2.out _).mono ?_
      rintro r w2 ⟨⟨b, rfl, -⟩, hb2⟩
      have HB2 := Lib.hid (bl_trans HB1.out hb2)
      have HA2 := Lib.hid (HA1.out.step hb2)
      clear hb2 HB1 HA1 x0 x1 x3
      obtain ⟨x0, x1, x3⟩ := HA2.out.c
      cases b with
      | false =>
        go_wp2
        go_ret
        exact ⟨⟨_, rfl, fun h => absurd h (by decide)⟩, HB2.out⟩
      | true =>
        go_wp2
        go_ret
        exact ⟨⟨_, rfl, fun h => absurd h (by decide)⟩, HB2.out⟩
  have q64 : decide ((64 : Int) < (a.ow.length : Int)) = false := by simp; omega
  obtain ⟨q, hq⟩ : ∃ q, a.ag.toList.isEmpty = q := ⟨_, rfl⟩
  have key : ∀ q', q' = q → True := fun _ _ => trivial
  clear key
  cases q with
  | true =>
    go_wp2
    have hlx := lt_of_heap HA1.out
    go_loopg [3] a.ow.length (fun g i wr => ∃ k : Nat, k + g = a.ow.length ∧ i = .int .i64 k ∧ Hid (Below w1.heap.size w1 wr))
    case atStart => exact ⟨0, by omega, rfl, Lib.hid (Below.refl _ _)⟩
    case round =>
      obtain ⟨k, hk, rfl, HBW⟩ := hrel
      have HWW := Lib.hid (bl_trans HB1.out HBW.out)
      have HAW := Lib.hid (HA1.out.step HBW.out)
      (try clear x0 x1 x3)
      obtain ⟨x0, x1, x3⟩ := HAW.out.c
      by_cases hlt : k < a.ow.length
      · obtain ⟨rfl, -, hbi, -, c0, c1, c2, c3⟩ := HO.out wr (.of_below HWW.out) k hlt
        have k0 : (0 : Int) ≤ (k : Int) := by omega
        have k1 : (k : Int) < (a.ow.length : Int) := by omega
        have k2 : (k : Int) ≤ (a.ow.length : Int) := by omega
        have k3 : (k : Int) ≤ (cap : Int) := by omega
        have HCO := Lib.hid (correct_any a.ow[k] wr (HP.out _ (List.getElem_mem hlt)))
        have hbw : bi < wr.heap.size := Nat.lt_of_lt_of_le hbi HWW.out.size
        generalize a.ow[k] = o at *
        have HC4 := Lib.hid (show ∀ w', Below wr.heap.size wr w' → w'.cell? ⟨bi, off + k * 4, none⟩ = some (.string o.tag) ∧ w'.cell? ⟨bi, off + k * 4 + 1, none⟩ = some (.string o.plt) ∧ w'.cell? ⟨bi, off + k * 4 + 2, none⟩ = some (.int .i64 o.fr) ∧ w'.cell? ⟨bi, off + k * 4 + 3, none⟩ = some (.int .i64 o.to) from fun w' hw => ⟨(hw.cell (p := ⟨bi, off + k * 4, none⟩) hbw).trans c0, (hw.cell (p := ⟨bi, off + k * 4 + 1, none⟩) hbw).trans c1, (hw.cell (p := ⟨bi, off + k * 4 + 2, none⟩) hbw).trans c2, (hw.cell (p := ⟨bi, off + k * 4 + 3, none⟩) hbw).trans c3⟩)
        go_wp2_with (fail)
        with_reducible refine HCO.out.mono ?_
        clear HCO
        rintro r w5 ⟨⟨n, rfl, -⟩, hb5⟩
        have HB5 := Lib.hid (bl_trans HBW.out hb5)
        obtain ⟨d0, d1, d2, d3⟩ := HC4.out w5 hb5
        clear hb5 c0 c1 c2 c3 x0 x1 x3
        have HA5 := Lib.hid (HA1.out.step HB5.out)
        obtain ⟨x0, x1, x3⟩ := HA5.out.c
        by_cases hnz : n = 0
        case neg =>
          have q1 : (n != 0) = true := by simpa using hnz
          have HNZ := Lib.hid hnz
          clear hnz
          go_wp2
          go_ret
          exact ⟨⟨_, rfl, fun h => absurd h HNZ.out⟩, (bl_trans HB1.out HB5.out)⟩
        subst hnz
        have b0 := cell_regrown d0
        have b1 := cell_regrown d1
        have b2 := cell_regrown d2
        have b3 := cell_regrown d3
        have b4 := cell_regrown x3
        have HS5 := Lib.hid (HS.out.step (bl_trans HB1.out HB5.out))
        obtain ⟨q, hq⟩ : ∃ q, ((a.ow.take k).any fun a => conflB a o) = q := ⟨_, rfl⟩
        have cC := fun d os => Calls.regrown_of (conflicts_any (a.ow.take k) (.slice (some ⟨bi, off, none⟩) k cap) o (grow (redrawn w5 d) os) ((HS5.out.take (by omega)).step (below_regrown w5 d os)))
        rw [hq] at cC
        go_upto_region 13 with (fail)
        clear d0 d1 d2 d3 x0 x1 x3 hq
        refine wp_region_quiet_below (by kernel_rfl) (by kernel_rfl) ?_
        (repeat (quiet_step (first | (go_at_call 61; with_reducible exact cC _ _))))
        refine wpQuiet_nil ?_
        intro _ hw'
        obtain ⟨⟨dq, osq⟩, hw''⟩ := hw'
        subst hw''
        have HGQ := Lib.hid (bl_trans HB5.out (below_regrown w5 dq osq))
        generalize grow (redrawn w5 dq) osq = wq at HGQ ⊢
        clear cC b0 b1 b2 b3 b4
        cases q with
        | true =>
          go_wp2
          go_ret
          exact ⟨⟨_, rfl, fun h => absurd h (by decide)⟩, (bl_trans HB1.out HGQ.out)⟩
        | false =>
          go_wp2
          go_roundg (a.ow.length - (k + 1))
          case measure => omega
          case rel => exact ⟨k + 1, by omega, by go_num, HGQ⟩
      · have hkd : decide ((k : Int) < (a.ow.length : Int)) = false := by simp; omega
        go_wp2
        go_ret
        exact ⟨⟨_, rfl, fun _ => HN12.out⟩, HWW.out⟩
  | false =>
    go_wp2_with (fail)
    with_reducible refine (HI2.out _).mono ?_
    rintro r w2 ⟨⟨b, rfl, -⟩, hb2⟩
    have HB2 := Lib.hid (bl_trans HB1.out hb2)
    have HA2 := Lib.hid (HA1.out.step hb2)
    clear hb2 HB1 HA1 x0 x1 x3
    obtain ⟨x0, x1, x3⟩ := HA2.out.c
    cases b with
    | false =>
      go_wp2
      go_ret
      exact ⟨⟨_, rfl, fun h => absurd h (by decide)⟩, HB2.out⟩
    | true =>
      go_wp2
      have hlx := lt_of_heap HA2.out
      go_loopg [3] a.ow.length (fun g i wr => ∃ k : Nat, k + g = a.ow.length ∧ i = .int .i64 k ∧ Hid (Below w2.heap.size w2 wr))
      case atStart => exact ⟨0, by omega, rfl, Lib.hid (Below.refl _ _)⟩
      case round =>
        obtain ⟨k, hk, rfl, HBW⟩ := hrel
        have HWW := Lib.hid (bl_trans HB2.out HBW.out)
        have HAW := Lib.hid (HA2.out.step HBW.out)
        (try clear x0 x1 x3)
        obtain ⟨x0, x1, x3⟩ := HAW.out.c
        by_cases hlt : k < a.ow.length
        · obtain ⟨rfl, -, hbi, -, c0, c1, c2, c3⟩ := HO.out wr (.of_below HWW.out) k hlt
          have k0 : (0 : Int) ≤ (k : Int) := by omega
          have k1 : (k : Int) < (a.ow.length : Int) := by omega
          have k2 : (k : Int) ≤ (a.ow.length : Int) := by omega
          have k3 : (k : Int) ≤ (cap : Int) := by omega
          have HCO := Lib.hid (correct_any a.ow[k] wr (HP.out _ (List.getElem_mem hlt)))
          have hbw : bi < wr.heap.size := Nat.lt_of_lt_of_le hbi HWW.out.size
          generalize a.ow[k] = o at *
          have HC4 := Lib.hid (show ∀ w', Below wr.heap.size wr w' → w'.cell? ⟨bi, off + k * 4, none⟩ = some (.string o.tag) ∧ w'.cell? ⟨bi, off + k * 4 + 1, none⟩ = some (.string o.plt) ∧ w'.cell? ⟨bi, off + k * 4 + 2, none⟩ = some (.int .i64 o.fr) ∧ w'.cell? ⟨bi, off + k * 4 + 3, none⟩ = some (.int .i64 o.to) from fun w' hw => ⟨(hw.cell (p := ⟨bi, off + k * 4, none⟩) hbw).trans c0, (hw.cell (p := ⟨bi, off + k * 4 + 1, none⟩) hbw).trans c1, (hw.cell (p := ⟨bi, off + k * 4 + 2, none⟩) hbw).trans c2, (hw.cell (p := ⟨bi, off + k * 4 + 3, none⟩) hbw).trans c3⟩)
          go_wp2_with (fail)
          with_reducible refine HCO.out.mono ?_
          clear HCO
          rintro r w5 ⟨⟨n, rfl, -⟩, hb5⟩
          have HB5 := Lib.hid (bl_trans HBW.out hb5)
          obtain ⟨d0, d1, d2, d3⟩ := HC4.out w5 hb5
          clear hb5 c0 c1 c2 c3 x0 x1 x3
          have HA5 := Lib.hid (HA2.out.step HB5.out)
          obtain ⟨x0, x1, x3⟩ := HA5.out.c
          by_cases hnz : n = 0
          case neg =>
            have q1 : (n != 0) = true := by simpa using hnz
            have HNZ := Lib.hid hnz
            clear hnz
            go_wp2
            go_ret
            exact ⟨⟨_, rfl, fun h => absurd h HNZ.out⟩, (bl_trans HB2.out HB5.out)⟩
          subst hnz
          have b0 := cell_regrown d0
          have b1 := cell_regrown d1
          have b2 := cell_regrown d2
          have b3 := cell_regrown d3
          have b4 := cell_regrown x3
          have HS5 := Lib.hid (HS.out.step (bl_trans HB2.out HB5.out))
          obtain ⟨q, hq⟩ : ∃ q, ((a.ow.take k).any fun a => conflB a o) = q := ⟨_, rfl⟩
          have cC := fun d os => Calls.regrown_of (conflicts_any (a.ow.take k) (.slice (some ⟨bi, off, none⟩) k cap) o (grow (redrawn w5 d) os) ((HS5.out.take (by omega)).step (below_regrown w5 d os)))
          rw [hq] at cC
          go_upto_region 13 with (fail)
          clear d0 d1 d2 d3 x0 x1 x3 hq
          refine wp_region_quiet_below (by kernel_rfl) (by kernel_rfl) ?_
          (repeat (quiet_step (first | (go_at_call 61; with_reducible exact cC _ _))))
          refine wpQuiet_nil ?_
          intro _ hw'
          obtain ⟨⟨dq, osq⟩, hw''⟩ := hw'
          subst hw''
          have HGQ := Lib.hid (bl_trans HB5.out (below_regrown w5 dq osq))
          generalize grow (redrawn w5 dq) osq = wq at HGQ ⊢
          clear cC b0 b1 b2 b3 b4
          cases q with
          | true =>
            go_wp2
            go_ret
            exact ⟨⟨_, rfl, fun h => absurd h (by decide)⟩, (bl_trans HB2.out HGQ.out)⟩
          | false =>
            go_wp2
            go_roundg (a.ow.length - (k + 1))
            case measure => omega
            case rel => exact ⟨k + 1, by omega, by go_num, HGQ⟩
        · have hkd : decide ((k : Int) < (a.ow.length : Int)) = false := by simp; omega
          go_wp2
          go_ret
          exact ⟨⟨_, rfl, fun _ => HN12.out⟩, HWW.out⟩
set_option maxRecDepth 100000 in
set_option maxHeartbeats 4000000 in
theorem checkAll_any (l : List Acc) (v : Value) (w : World) (h : SlIs (tAcc 138) (· < w.heap.size) w v l) (hl : l.length ≤ 1000) (hp : ∀ a ∈ l, PltOk a.ow) :
    Calls Tryz.prog 28 #[v] w fun e w' => ChkI (CfOk l) e ∧ Below w.heap.size w w' := by
  obtain ⟨ao, cap, bi, off, rfl, h1, h2, ho⟩ := acc_open h
  unfold maxLen at h2
  have HO := Lib.hid ho
  have HP := Lib.hid hp
  have q0 : decide ((1024 : Int) < (l.length : Int)) = false := by simp; omega
  clear h ho hp
  go_enter Tryz.func28, Tryz.ntmps28
  go_wp2
  go_loopg [3] l.length (fun g i wr => ∃ k : Nat, k + g = l.length ∧ i = .int .i64 k ∧ Hid (∀ j (hj : j < l.length), j < k → l[j].nm.size ≤ 12) ∧ Hid (Below w.heap.size w wr))
  case atStart => exact ⟨0, by omega, rfl, Lib.hid (fun j _ h => by omega), Lib.hid (Below.refl _ _)⟩
  case round =>
    obtain ⟨k, hk, rfl, HT, HBW⟩ := hrel
    by_cases hlt : k < l.length
    · obtain ⟨rfl, -, hbi, -, hv, hsl, c0, c1, c2, c3, c4, c5, c6, c7, c8⟩ := HO.out wr (.of_below HBW.out) k hlt
      have k0 : (0 : Int) ≤ (k : Int) := by omega
      have k1 : (k : Int) < (l.length : Int) := by omega
      obtain ⟨ha, hn, hc, hve⟩ : ∃ a n c, hv = .slice a n c := by
        obtain ⟨a, c, _, _, e, -⟩ := hsl
        exact ⟨a, _, c, e⟩
      subst hve
      have hsl1 : SlIs tOw (· < wr.heap.size) wr (.slice ha hn hc) l[k].ow := hsl.keep (fun q (hq : q < w.heap.size) => Nat.lt_of_lt_of_le hq HBW.out.size) (SameOn.refl _ _)
      have HCK := Lib.hid (check33_any l[k] (.slice ha hn hc) wr hsl1 (HP.out _ (List.getElem_mem hlt)))
      have HG1 := Lib.hid (show ∀ j (hj : j < l.length), j = k → l[j] = l[k] by rintro j hj rfl; rfl)
      obtain ⟨y, hy⟩ : ∃ y, l[k] = y := ⟨_, rfl⟩
      rw [hy] at HCK HG1 c0 c1 c2 c4 c5 c6 c7 c8
      clear hsl hsl1 hy
      go_wp2_with (fail)
      with_reducible refine HCK.out.mono ?_
      clear HCK
      rintro r w2 ⟨⟨n, rfl, hn0⟩, hb2⟩
      have HN0 := Lib.hid hn0
      have HB2 := Lib.hid (bl_trans HBW.out hb2)
      clear hn0 hb2 c0 c1 c2 c3 c4 c5 c6 c7 c8
      by_cases hnz : n = 0
      case neg =>
        have q1 : (n != 0) = true := by simpa using hnz
        have HNZ := Lib.hid hnz
        clear hnz
        go_wp2
        go_ret
        exact ⟨⟨_, rfl, fun h => absurd h HNZ.out⟩, HB2.out⟩
      subst hnz
      have HT2 := Lib.hid (show ∀ j (hj : j < l.length), j < k + 1 → l[j].nm.size ≤ 12 from fun j hj h => by
        by_cases e : j = k
        · rw [HG1.out j hj e]; exact HN0.out (by trivial)
        · exact HT.out j hj (by omega))
      clear HT HN0 HG1
      obtain ⟨wk, rfl⟩ : ∃ wk : World, wk = w2 := ⟨_, rfl⟩
      go_wp2
      go_loopg [5] k (fun g i wr => ∃ j : Nat, j + g = k ∧ i = .int .i64 j ∧ Hid (Below w.heap.size w wr))
      case atStart => exact ⟨0, by omega, rfl, HB2⟩
      case round =>
        obtain ⟨j, hj, rfl, HBV⟩ := hrel
        by_cases hlt2 : j < k
        · have hje : j < l.length := by omega
          obtain ⟨-, -, -, -, hv1, hsl1, e0, -, -, e3, -⟩ := HO.out wr (.of_below HBV.out) j hje
          obtain ⟨-, -, -, -, hv2, hsl2, f0, -, -, f3, -⟩ := HO.out wr (.of_below HBV.out) k hlt
          have j0 : (0 : Int) ≤ (j : Int) := by omega
          have j1 : (j : Int) < (l.length : Int) := by omega
          have j2 : (j : Int) < (k : Int) := by omega
          have hbw : bi < wr.heap.size := Nat.lt_of_lt_of_le hbi HBV.out.size
          obtain ⟨a1, n1, c1, hve1⟩ : ∃ a n c, hv1 = .slice a n c := by
            obtain ⟨a, c, _, _, e, -⟩ := hsl1
            exact ⟨a, _, c, e⟩
          obtain ⟨a2, n2, c2, hve2⟩ : ∃ a n c, hv2 = .slice a n c := by
            obtain ⟨a, c, _, _, e, -⟩ := hsl2
            exact ⟨a, _, c, e⟩
          subst hve1 hve2
          have HSL1 := Lib.hid (show SlIs tOw (· < wr.heap.size) wr (.slice a1 n1 c1) l[j].ow from hsl1.keep (fun q (hq : q < w.heap.size) => Nat.lt_of_lt_of_le hq HBV.out.size) (SameOn.refl _ _))
          have HSL2 := Lib.hid (show SlIs tOw (· < wr.heap.size) wr (.slice a2 n2 c2) l[k].ow from hsl2.keep (fun q (hq : q < w.heap.size) => Nat.lt_of_lt_of_le hq HBV.out.size) (SameOn.refl _ _))
          generalize l[j] = y1 at *
          generalize l[k] = y2 at *
          obtain ⟨q, hq⟩ : ∃ q, (y1.nm.toList == y2.nm.toList) = q := ⟨_, rfl⟩
          have HE3 := Lib.hid (show ∀ w', Below wr.heap.size wr w' → w'.cell? ⟨bi, off + j * 9 + 3, none⟩ = some (.slice a1 n1 c1) ∧ w'.cell? ⟨bi, off + k * 9 + 3, none⟩ = some (.slice a2 n2 c2) from fun w' hw => ⟨(hw.cell (p := ⟨bi, off + j * 9 + 3, none⟩) hbw).trans e3, (hw.cell (p := ⟨bi, off + k * 9 + 3, none⟩) hbw).trans f3⟩)
          clear hsl1 hsl2 e3 f3
          cases q with
          | true =>
            go_wp2_with (go_quiet (fail))
            go_ret
            exact ⟨⟨_, rfl, fun h => absurd h (by decide)⟩, bl_drewN HBV.out _⟩
          | false =>
            go_upto_region 14 with (go_quiet (fail))
            have HWV := Lib.hid (bl_drewN (Below.refl wr.heap.size wr) nq)
            generalize wr.drewN nq = wv at HWV ⊢
            obtain ⟨a2', c2', b2, o2, hv2e, hl2, hm2, ho2⟩ := ow_open (HSL2.out.step HWV.out)
            injection hv2e with t1 t2 t3
            subst t1 t2 t3
            unfold maxLen at hm2
            have HO2 := Lib.hid ho2
            have HSV := Lib.hid (HSL1.out.step HWV.out)
            have HBX := Lib.hid (bl_trans HBV.out HWV.out)
            clear ho2 e0 f0 hq
            go_wp2
            go_loopg [6] y2.ow.length (fun g i wr2 => ∃ m : Nat, m + g = y2.ow.length ∧ i = .int .i64 m ∧ Hid (Below wv.heap.size wv wr2))
            case atStart => exact ⟨0, by omega, rfl, Lib.hid (Below.refl _ _)⟩
            case round =>
              obtain ⟨wx, rfl⟩ : ∃ wx : World, wx = wr := ⟨_, rfl⟩
              obtain ⟨m, hm3, rfl, HBM⟩ := hrel
              obtain ⟨g1, g2⟩ := HE3.out wx (bl_trans HWV.out HBM.out)
              by_cases hlt3 : m < y2.ow.length
              · obtain ⟨rfl, -, hb2, -, d0, d1, d2, d3⟩ := HO2.out wx (.of_below HBM.out) m hlt3
                have m0 : (0 : Int) ≤ (m : Int) := by omega
                have m1 : (m : Int) < (y2.ow.length : Int) := by omega
                have HSX := Lib.hid (HSV.out.step HBM.out)
                generalize y2.ow[m] = o at *
                have b0 := cell_regrown d0
                have b1 := cell_regrown d1
                have b2 := cell_regrown d2
                have b3 := cell_regrown d3
                have b4 := cell_regrown g1
                have b5 := cell_regrown g2
                obtain ⟨q, hq⟩ : ∃ q, (y1.ow.any fun a => conflB a o) = q := ⟨_, rfl⟩
                have cC := fun d os => Calls.regrown_of (conflicts_any y1.ow (.slice a1 n1 c1) o (grow (redrawn wx d) os) (HSX.out.step (below_regrown wx d os)))
                rw [hq] at cC
                go_upto_region 17 with (fail)
                clear d0 d1 d2 d3 g1 g2 hq
                refine wp_region_quiet_below (by kernel_rfl) (by kernel_rfl) ?_
                (repeat (quiet_step (first | (go_at_call 61; with_reducible exact cC _ _))))
                refine wpQuiet_nil ?_
                intro _ hw'
                obtain ⟨⟨dq, osq⟩, hw''⟩ := hw'
                subst hw''
                have HGQ := Lib.hid (bl_trans HBM.out (below_regrown wx dq osq))
                generalize grow (redrawn wx dq) osq = wq at HGQ ⊢
                clear cC b0 b1 b2 b3 b4 b5
                cases q with
                | true =>
                  go_wp2
                  go_ret
                  exact ⟨⟨_, rfl, fun h => absurd h (by decide)⟩, bl_trans HBX.out HGQ.out⟩
                | false =>
                  go_wp2
                  go_roundg (y2.ow.length - (m + 1))
                  case measure => omega
                  case rel => exact ⟨m + 1, by omega, by go_num, HGQ⟩
              · have hmd : decide ((m : Int) < (y2.ow.length : Int)) = false := by simp; omega
                have HBO := Lib.hid (bl_trans HBX.out HBM.out)
                go_wp2
                go_roundg (k - (j + 1))
                case measure => omega
                case rel => exact ⟨j + 1, by omega, by go_num, HBO⟩
        · have hjd : decide ((j : Int) < (k : Int)) = false := by simp; omega
          go_wp2
          go_roundg (l.length - (k + 1))
          case measure => omega
          case rel => exact ⟨k + 1, by omega, by go_num, HT2, HBV⟩
    · have hkd : decide ((k : Int) < (l.length : Int)) = false := by simp; omega
      go_wp2
      go_ret
      exact ⟨⟨_, rfl, fun _ a ha => by
        obtain ⟨j, hj, rfl⟩ := List.getElem_of_mem ha
        exact HT.out j hj (by omega)⟩, HBW.out⟩
end Go.Proofs.YtifcelebfagjbaaGreatDoor
