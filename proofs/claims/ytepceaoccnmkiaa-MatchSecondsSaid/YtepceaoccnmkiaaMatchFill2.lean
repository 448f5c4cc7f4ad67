/-
  Layer 6 (match): the walk of fill.
-/
import Derived.Test.YtepceaoccnmkiaaMatchFill
import Derived.Deep.RegionHeld3
namespace Go.Proofs.Ytepceaoccnmkiaa
open Go.RowKit Go.Tw Go.Tw.Match
theorem mn_hi {m : Mat} (h : Ok m) (F : List Int) (k i mask : Nat) : -1 ≤ mn (costs m F k i mask) ∧ mn (costs m F k i mask) ≤ 17179869184 + 2147483648 * k := by
  refine ⟨mn_ge _ (costs_nonneg h F k i mask), ?_⟩
  by_cases e : costs m F k i mask = []
  · rw [e]; show (-1 : Int) ≤ _; omega
  · exact (costs_range h F k i mask _ (mn_spec e (costs_nonneg h F k i mask)).1).2
theorem part_hi {m : Mat} (h : Ok m) (F : List Int) (k i mask t : Nat) : -1 ≤ mn (soFar m F k i mask t) ∧ mn (soFar m F k i mask t) ≤ 17179869184 + 2147483648 * (k + 1) := by
  refine ⟨mn_ge _ (soFar_nonneg h F k i mask t), ?_⟩
  by_cases e : soFar m F k i mask t = []
  · rw [e]; show (-1 : Int) ≤ _; omega
  · have hm := (mn_spec e (soFar_nonneg h F k i mask t)).1
    have hc : mn (soFar m F k i mask t) ∈ costs m F (k + 1) i mask := by
      rw [costs_succ]
      unfold soFar at hm ⊢
      obtain ⟨j, hj, hx⟩ := List.mem_flatMap.1 hm
      exact List.mem_flatMap.2 ⟨j, List.mem_of_mem_take hj, hx⟩
    have := (costs_range h F (k + 1) i mask _ hc).2
    omega
theorem pow9 {c k : Nat} (hc : c ≤ 8) (hk : k ≤ 8) : (c + 1) ^ k ≤ 43046721 := by
  have h1 : (c + 1) ^ k ≤ 9 ^ k := Nat.pow_le_pow_left (by omega) k
  have h2 : 9 ^ k ≤ 9 ^ 8 := Nat.pow_le_pow_right (by decide) hk
  have h3 : 9 ^ 8 = 43046721 := by decide
  omega
theorem ways_hi {m : Mat} (h : Ok m) (F : List Int) {k : Nat} (i mask : Nat) (hk : k ≤ 8) : 0 ≤ tieN (costs m F k i mask) ∧ tieN (costs m F k i mask) ≤ 43046721 := by
  unfold tieN
  have h1 := List.count_le_length (a := mn (costs m F k i mask)) (l := costs m F k i mask)
  have h2 := costs_len m F k i mask
  have h3 := pow9 h.c8 hk
  omega
theorem part_len (m : Mat) (F : List Int) (k i mask t : Nat) : (soFar m F k i mask t).length ≤ (m.col.length + 1) ^ (k + 1) := by
  refine Nat.le_trans ?_ (costs_len m F (k + 1) i mask)
  rw [costs_succ]
  unfold soFar
  have : (choices m.col.length).flatMap (via m F k i mask) = ((choices m.col.length).take t).flatMap (via m F k i mask) ++ ((choices m.col.length).drop t).flatMap (via m F k i mask) := by
    rw [← List.flatMap_append, List.take_append_drop]
  rw [this, List.length_append]
  omega
theorem pways_hi {m : Mat} (h : Ok m) (F : List Int) {k : Nat} (i mask t : Nat) (hk : k < 8) : 0 ≤ tieN (soFar m F k i mask t) ∧ tieN (soFar m F k i mask t) ≤ 43046721 := by
  unfold tieN
  have h1 := List.count_le_length (a := mn (soFar m F k i mask t)) (l := soFar m F k i mask t)
  have h2 := part_len m F k i mask t
  have h3 := pow9 (k := k + 1) h.c8 (by omega)
  omega

set_option maxRecDepth 100000 in
set_option maxHeartbeats 8000000 in
theorem fill_any (m : Mat) (hok : Ok m) (F : List Int) (w0 w : World) (hb : Below w0.heap.size w0 w) (p : Nat) (ac : Option Addr) (cc bc oc : Nat) (ar : Option Addr) (cr br or : Nat) (al : Option Addr) (cl bl ol : Nat) (af : Option Addr) (cf bf of : Nat)
    (hm : MatAt w0 ac cc bc oc ar cr br or al cl bl ol m) (hF : IntsAt w0.heap.size w0 af bf of F) (hFl : F.length = m.row.length) (hcf : F.length ≤ cf) (hcf2 : cf ≤ 9223372036854775807)
    (gL cL gW cW : Nat) (bL bW : List Nat) (all : Nat) (Ls Ws : List (List Int)) (L0 W0 L1 W1 : List Int) (i k mask b0 b1 d0 d1 : Nat)
    (T : Tab w0.heap.size w p (.slice ac m.cost.length cc) (.slice ar m.row.length cr) (.slice al m.col.length cl) (.slice af F.length cf) gL cL gW cW bL bW all Ls Ws)
    (hall : all = 2 ^ m.col.length) (hik : i + k + 1 = m.row.length) (hmask : mask < all) (hLs : Ls.length = m.row.length + 1) (hWs : Ws.length = m.row.length + 1)
    (hL0 : Ls[i]? = some L0) (hW0 : Ws[i]? = some W0) (hL1 : Ls[i + 1]? = some L1) (hW1 : Ws[i + 1]? = some W1)
    (hb0 : bL[i]? = some b0) (hb1 : bL[i + 1]? = some b1) (hd0 : bW[i]? = some d0) (hd1 : bW[i + 1]? = some d1)
    (hn : ∀ q (h : q < L1.length), L1[q] = mn (costs m F k (i + 1) q)) (hnw : ∀ q (h : q < W1.length), W1[q] = tieN (costs m F k (i + 1) q)) (hz : ∀ h : mask < W0.length, W0[mask] = 0) :
    Calls Try.prog 37 #[.pointer (some ⟨p, 0, none⟩), .int .i64 i, .int .i64 mask] w fun e w' => e = .returned (.tuple #[]) ∧
      FS w0.heap.size w' p (.slice ac m.cost.length cc) (.slice ar m.row.length cr) (.slice al m.col.length cl) (.slice af F.length cf) gL cL gW cW bL bW all Ls Ws L0 W0 i mask (mn (costs m F (k + 1) i mask)) (tieN (costs m F (k + 1) i mask)) ∧ Below w0.heap.size w0 w' := by
  have c8 := hok.c8
  have n8 := hok.n8
  have hal : all ≤ 256 := by rw [hall]; exact Nat.le_trans (Nat.pow_le_pow_right (by decide) c8) (by decide)
  have lenOf : ∀ {bs : List Nat} {g : Nat} {Rs : List (List Int)} {j : Nat} {R : List Int}, Rows2 w g bs all Rs → Rs[j]? = some R → R.length = all := fun h e => h.rl _ (List.mem_of_getElem? e)
  have hlL0 := lenOf T.least hL0
  have hlW0 := lenOf T.ways hW0
  have hlL1 := lenOf T.least hL1
  have hlW1 := lenOf T.ways hW1
  have hm0 : mask < L0.length := by omega
  have hm1 : mask < W0.length := by omega
  have HS := Lib.hid (FS.start T hL0 hW0 hm0 hm1)
  have htl := T.lt (by omega) (by omega)
  have hlow := T.low
  have hb0m : b0 ∈ p :: gL :: gW :: (bL ++ bW) := by simp [List.mem_of_getElem? hb0]
  have hd0m : d0 ∈ p :: gL :: gW :: (bL ++ bW) := by simp [List.mem_of_getElem? hd0]
  have hb0s := htl b0 hb0m
  have hd0s := htl d0 hd0m
  have hb0l := hlow b0 hb0m
  have hd0l := hlow d0 hd0m
  have hcl1 := T.hcl
  have hcl2 := T.hcl2
  have hcw1 := T.hcw
  have hcw2 := T.hcw2
  have HZ := Lib.hid (hz hm1)
  rw [HZ.out] at HS
  have HN := Lib.hid hn
  have HNW := Lib.hid hnw
  have HALL := Lib.hid hall
  have HB := Lib.hid hb
  clear T htl hlow hb0m hd0m hn hnw hall lenOf hz
  have HE := Lib.hid hL0
  have HEW := Lib.hid hW0
  have HE1 := Lib.hid hL1
  have HEW1 := Lib.hid hW1
  have Hb0 := Lib.hid hb0
  have Hb1 := Lib.hid hb1
  have Hd0 := Lib.hid hd0
  have Hd1 := Lib.hid hd1
  obtain ⟨e0, e1, e2⟩ := HS.out.cellsL HE.out Hb0.out hm0
  obtain ⟨f0, f1, f2⟩ := HS.out.cellsW HEW.out Hd0.out hm1
  obtain ⟨x0, x1, x2, x3, x4, x5, xf⟩ := blk6 HS.out.blk
  have HS1 := Lib.hid (HS.out.storeL hL0 hb0 (-1))
  have HB1 := Lib.hid (bl_set (p := ⟨b0, mask, none⟩) HB.out (.int .i64 (-1)) hb0l)
  have HLL := Lib.hid hlL0
  have HLW := Lib.hid hlW0
  have HLL1 := Lib.hid hlL1
  have HLW1 := Lib.hid hlW1
  have HLs := Lib.hid hLs
  have HWs := Lib.hid hWs
  have hik1 : i + 1 < Ls.length := by omega
  have hik2 : i + 1 < Ws.length := by omega
  have hik3 : i < m.row.length := by omega
  have hik4 : k ≤ 7 := by omega
  have hik5 : m.row.length = i + k + 1 := by omega
  have HIK := Lib.hid hik5
  clear hlL0 hlW0 hlL1 hlW1 hLs hWs hik hik5
  have i0 : (0 : Int) ≤ (i : Int) := by omega
  have i1 : (i : Int) < (Ls.length : Int) := by omega
  have i2 : (i : Int) + 1 < (Ls.length : Int) := by omega
  have i3 : (i : Int) < (Ws.length : Int) := by omega
  have i4 : (i : Int) + 1 < (Ws.length : Int) := by omega
  have k0 : (0 : Int) ≤ (mask : Int) := by omega
  have k1 : (mask : Int) < (all : Int) := by omega
  have HFL := Lib.hid hFl
  clear hL0 hW0 hL1 hW1 hb0 hb1 hd0 hd1 hFl
  go_enter Try.func37, Try.ntmps37
  go_wp2_with (fail)
  refine (choices_any m hok F w0 _ HB1.out p _ _ bc oc _ _ br or _ _ bl ol _ _ bf of _ _ hm hF HFL.out hcf hcf2 HS1.out.blk).mono ?_
  rintro e w1 ⟨⟨g, cap, rfl, hc1, hc2, hg, hcells⟩, hbc⟩
  have hsz1 : (w.setCell ⟨b0, mask, none⟩ (.int .i64 (-1))).heap.size = w.heap.size := by simp
  rw [hsz1] at hg
  have HS2 := Lib.hid (HS1.out.below (by omega) (by omega) hbc)
  have HB2 := Lib.hid (HB1.out.trans (hbc.mono (HB1.out.size)))
  have HC := Lib.hid hcells
  clear hbc hcells x0 x1 x2 x3 x4 x5 xf e0 e1 e2 f0 f1 f2 hsz1
  go_wp2
  go_loopg [24] (m.col.length + 1) (fun g' ix wr => ∃ (t : Nat) (x y : Int), t + g' = m.col.length + 1 ∧ ix = .int .i64 t ∧ x = mn (soFar m F k i mask t) ∧ y = tieN (soFar m F k i mask t) ∧
    FS w0.heap.size wr p (.slice ac m.cost.length cc) (.slice ar m.row.length cr) (.slice al m.col.length cl) (.slice af F.length cf) gL cL gW cW bL bW all Ls Ws L0 W0 i mask x y ∧ Cells wr g (choices m.col.length) ∧ Below w0.heap.size w0 wr)
  case atStart => exact ⟨0, -1, 0, by omega, rfl, rfl, rfl, HS2.out, HC.out, HB2.out⟩
  case round =>
    obtain ⟨t, x, y, ht, rfl, hx, hy, hfs, hch, hbb⟩ := hrel
    clear HS HS1 HS2 HB HB1 HB2 HC
    have HX := Lib.hid hx; clear hx
    have HY := Lib.hid hy; clear hy
    have HS := Lib.hid hfs; clear hfs
    have HC := Lib.hid hch
    have HB := Lib.hid hbb; clear hbb
    by_cases hlt : t < m.col.length + 1
    case neg =>
      obtain rfl : t = m.col.length + 1 := by omega
      have HR := Lib.hid (show x = mn (costs m F (k + 1) i mask) ∧ y = tieN (costs m F (k + 1) i mask) by
        rw [HX.out, HY.out, soFar_end _ _ _ _ _ _ (Nat.le_refl _)]
        exact ⟨rfl, rfl⟩)
      have hd : decide ((m.col.length : Int) + 1 < (m.col.length : Int) + 1) = false := by simp
      clear hlt ht hch
      go_wp2
      go_end0
      exact ⟨rfl, by rw [← HR.out.1, ← HR.out.2]; exact HS.out, HB.out⟩
    obtain ⟨j, hjj⟩ : ∃ j, (choices m.col.length)[t]'(by rw [choices_len]; exact hlt) = j := ⟨_, rfl⟩
    have hcx := hch.cell (k := t) (by rw [choices_len]; exact hlt)
    have hjm := choices_mem.1 (List.getElem_mem (l := choices m.col.length) (n := t) (by rw [choices_len]; exact hlt))
    have hsu := soFar_succ m F k i mask (t := t) (by rw [choices_len]; exact hlt)
    rw [hjj] at hcx hjm hsu
    have HSU := Lib.hid hsu
    obtain ⟨hj1, hj2⟩ := hjm
    clear hjj hsu hch
    obtain ⟨e0, e1, e2⟩ := HS.out.cellsL HE.out Hb0.out hm0
    obtain ⟨f0, f1, f2⟩ := HS.out.cellsW HEW.out Hd0.out hm1
    obtain ⟨x0, x1, x2, x3, x4, x5, xf⟩ := blk6 HS.out.blk
    have hmk : mask < 256 := by omega
    have t0 : (0 : Int) ≤ (t : Int) := by omega
    have t1 : (t : Int) < (m.col.length : Int) + 1 := by omega
    have hal := allowed_any m hok F w0 wr HB.out p _ _ bc oc _ _ br or _ _ bl ol _ _ bf of _ _ hm hF HFL.out hcf hcf2 HS.out.blk i j mask hik3 hj1 hj2 hmk
    by_cases hokj : ok m F i j mask = true
    case neg =>
      rw [show ok m F i j mask = false by simpa using hokj] at hal
      have HAL := Lib.hid hal
      have HR := Lib.hid (show soFar m F k i mask (t + 1) = soFar m F k i mask t by
        rw [HSU.out]; unfold via; rw [if_neg hokj, List.append_nil])
      clear hal hokj
      go_wp2_with (go_at_call 39; refine (HAL.out).mono ?_; rintro e w' ⟨rfl, rfl⟩)
      go_roundg (m.col.length + 1 - (t + 1))
      case measure => omega
      case rel => exact ⟨t + 1, x, y, by omega, by go_num, by rw [HR.out]; exact HX.out, by rw [HR.out]; exact HY.out, HS.out, HC.out, HB.out⟩
    have hpr := ok_price hok hokj
    have hpr2 := price_range hok i j
    have HV := Lib.hid (show soFar m F k i mask (t + 1) = soFar m F k i mask t ++ (costs m F k (i + 1) (nxt mask j)).map (price m i j + ·) by
      rw [HSU.out]; unfold via; rw [if_pos hokj])
    rw [hokj] at hal
    have HAL := Lib.hid hal
    have HST := Lib.hid (step_any m hok F w0 wr HB.out p _ _ bc oc _ _ br or _ _ bl ol _ _ bf of _ _ hm hF HFL.out hcf hcf2 HS.out.blk i j mask hik3 hj1 hj2 hmk)
    have hnx : nxt mask j < all := by rw [HALL.out]; exact nxt_lt (by rw [← HALL.out]; exact hmask) hj2
    have n0 : (0 : Int) ≤ ((nxt mask j : Nat) : Int) := by omega
    have n1 : ((nxt mask j : Nat) : Int) < (all : Int) := by omega
    have hrr := mn_hi hok F k (i + 1) (nxt mask j)
    have hrw := ways_hi hok F (i + 1) (nxt mask j) (k := k) (by omega)
    have hxr := part_hi hok F k i mask t
    have hyr := pways_hi hok F i mask t (k := k) (by omega)
    rw [← HX.out] at hxr
    rw [← HY.out] at hyr
    obtain ⟨r, hr⟩ : ∃ r, mn (costs m F k (i + 1) (nxt mask j)) = r := ⟨_, rfl⟩
    obtain ⟨u, hu⟩ : ∃ u, tieN (costs m F k (i + 1) (nxt mask j)) = u := ⟨_, rfl⟩
    obtain ⟨pc, hpc⟩ : ∃ pc, price m i j = pc := ⟨_, rfl⟩
    have HRr := Lib.hid hr
    have HUu := Lib.hid hu
    have HPp := Lib.hid hpc
    rw [hr] at hrr
    rw [hu] at hrw
    rw [hpc] at hpr hpr2
    clear hal hokj hr hu hpc x0 x1 x2 x3 x4 x5 xf e0 e1 e2 f0 f1 f2
    have hcase : r < 0 ∨ (0 ≤ r ∧ x < 0) ∨ (0 ≤ r ∧ 0 ≤ x ∧ pc + r < x) ∨ (0 ≤ r ∧ 0 ≤ x ∧ (pc + r == x) = true ∧ ¬ pc + r < x) ∨ (0 ≤ r ∧ 0 ≤ x ∧ (pc + r == x) = false ∧ x < pc + r) := by
      simp
      omega
    rcases hcase with q | ⟨q, q2⟩ | ⟨q, q2, q3⟩ | ⟨q, q2, q3, q4⟩ | ⟨q, q2, q3, q4⟩
    all_goals
      go_wp2_with (first
        | (go_at_call 39; refine (HAL.out).mono ?_; rintro e w' ⟨rfl, rfl⟩)
        | (go_at_call 40
           refine (HST.out).mono ?_
           rintro e w2 ⟨rfl, nn, hw2⟩
           rw [HPp.out]
           have HS2 := Lib.hid (show FS w0.heap.size w2 p (.slice ac m.cost.length cc) (.slice ar m.row.length cr) (.slice al m.col.length cl) (.slice af F.length cf) gL cL gW cW bL bW all Ls Ws L0 W0 i mask x y by rw [hw2]; exact HS.out.drewN nn)
           have HC2 := Lib.hid (show Cells w2 g (choices m.col.length) by rw [hw2]; exact HC.out.drewN nn)
           have HB2 := Lib.hid (show Below w0.heap.size w0 w2 by rw [hw2]; exact bl_drewN HB.out nn)
           obtain ⟨e0, e1, e2⟩ := HS2.out.cellsL HE.out Hb0.out hm0
           obtain ⟨f0, f1, f2⟩ := HS2.out.cellsW HEW.out Hd0.out hm1
           obtain ⟨x0, x1, x2, x3, x4, x5, xf⟩ := blk6 HS2.out.blk
           obtain ⟨e3, e4⟩ := HS2.out.nextL HE1.out Hb1.out (q := nxt mask j) (by have := HLL1.out; omega)
           obtain ⟨f3, f4⟩ := HS2.out.nextW HEW1.out Hd1.out (q := nxt mask j) (by have := HLW1.out; omega)
           rw [HN.out _ (by have := HLL1.out; omega), HRr.out] at e4
           rw [HNW.out _ (by have := HLW1.out; omega), HUu.out] at f4
           clear hw2 hcx))
    · have HR := Lib.hid (show soFar m F k i mask (t + 1) = soFar m F k i mask t by
        rw [HV.out]; exact mn_none (costs_nonneg hok F _ _ _) (by rw [HRr.out]; exact q))
      go_roundg (m.col.length + 1 - (t + 1))
      case measure => omega
      case rel => exact ⟨t + 1, x, y, by omega, by go_num, by rw [HR.out]; exact HX.out, by rw [HR.out]; exact HY.out, HS2.out, HC2.out, HB2.out⟩
    · have HR := Lib.hid (show mn (soFar m F k i mask (t + 1)) = pc + r ∧ tieN (soFar m F k i mask (t + 1)) = u by
        have h := mn_less (l := soFar m F k i mask t) (c := pc) (soFar_nonneg hok F k i mask t) (costs_nonneg hok F k (i + 1) (nxt mask j)) hpr (by rw [HRr.out]; omega) (.inl (by rw [← HX.out]; exact q2))
        rw [← HPp.out, ← HV.out, HPp.out, HRr.out, HUu.out] at h
        exact h)
      have HS3 := Lib.hid ((HS2.out.storeL HE.out Hb0.out (pc + r)).storeW HEW.out Hd0.out u)
      have HC3 := Lib.hid ((HC2.out.other (a := ⟨b0, mask, none⟩) (by show b0 ≠ g; omega) (.int .i64 (pc + r))).other (a := ⟨d0, mask, none⟩) (by show d0 ≠ g; omega) (.int .i64 u))
      have HB3 := Lib.hid (bl_set (p := ⟨d0, mask, none⟩) (bl_set (p := ⟨b0, mask, none⟩) HB2.out (.int .i64 (pc + r)) hb0l) (.int .i64 u) hd0l)
      have hs2 : (0 : Int) ≤ (i : Int) + 1 := by omega
      have hs1 : IntKind.i64.wrap ((i : Int) + 1) = (i : Int) + 1 := wrap_in (by omega) (by omega)
      have hs4 : IntKind.i64.wrap (pc + r) = pc + r := wrap_in (by omega) (by omega)
      have hs5 : IntKind.i64.wrap (y + u) = y + u := wrap_in (by omega) (by omega)
      have hs3 : ((i : Int) + 1).toNat = i + 1 := by omega
      obtain ⟨a1, a2, a3, a4, a5, a6, a7, a8, a9⟩ := HS2.out.apart Hb0.out Hd0.out Hd1.out
      go_region_held3 (fun w' => w'.cell? ⟨p, 4, none⟩ = some (.slice (some ⟨gL, 0, none⟩) Ls.length cL) ∧ w'.cell? ⟨p, 5, none⟩ = some (.slice (some ⟨gW, 0, none⟩) Ws.length cW) ∧ w'.cell? ⟨gL, i, none⟩ = some (.slice (some ⟨b0, 0, none⟩) all all) ∧
          w'.cell? ⟨gW, i, none⟩ = some (.slice (some ⟨d0, 0, none⟩) all all) ∧ w'.cell? ⟨gW, i + 1, none⟩ = some (.slice (some ⟨d1, 0, none⟩) all all) ∧ w'.cell? ⟨d1, nxt mask j, none⟩ = some (.int .i64 u)) (first
          | exact ⟨x4, x5, e0, f0, f3, f4⟩
          | exact ⟨keep_cell x4 a1, keep_cell x5 a1, keep_cell e0 a2, keep_cell f0 a3, keep_cell f3 a3, keep_cell f4 a5⟩
          | exact ⟨keep_cell2 x4 a1 a6, keep_cell2 x5 a1 a6, keep_cell2 e0 a2 a7, keep_cell2 f0 a3 a8, keep_cell2 f3 a3 a8, keep_cell2 f4 a5 a9⟩) (fail)
      clear hs1 hs2 hs3 hs4 hs5 a1 a2 a3 a4 a5 a6 a7 a8 a9
      go_wp2
      go_roundg (m.col.length + 1 - (t + 1))
      case measure => omega
      case rel => exact ⟨t + 1, pc + r, u, by omega, by go_num, HR.out.1.symm, HR.out.2.symm, HS3.out.drew, HC3.out.drew, HB3.out.drew⟩
    · have HR := Lib.hid (show mn (soFar m F k i mask (t + 1)) = pc + r ∧ tieN (soFar m F k i mask (t + 1)) = u by
        have h := mn_less (l := soFar m F k i mask t) (c := pc) (soFar_nonneg hok F k i mask t) (costs_nonneg hok F k (i + 1) (nxt mask j)) hpr (by rw [HRr.out]; omega) (.inr (by rw [HRr.out, ← HX.out]; exact q3))
        rw [← HPp.out, ← HV.out, HPp.out, HRr.out, HUu.out] at h
        exact h)
      have HS3 := Lib.hid ((HS2.out.storeL HE.out Hb0.out (pc + r)).storeW HEW.out Hd0.out u)
      have HC3 := Lib.hid ((HC2.out.other (a := ⟨b0, mask, none⟩) (by show b0 ≠ g; omega) (.int .i64 (pc + r))).other (a := ⟨d0, mask, none⟩) (by show d0 ≠ g; omega) (.int .i64 u))
      have HB3 := Lib.hid (bl_set (p := ⟨d0, mask, none⟩) (bl_set (p := ⟨b0, mask, none⟩) HB2.out (.int .i64 (pc + r)) hb0l) (.int .i64 u) hd0l)
      have hs2 : (0 : Int) ≤ (i : Int) + 1 := by omega
      have hs1 : IntKind.i64.wrap ((i : Int) + 1) = (i : Int) + 1 := wrap_in (by omega) (by omega)
      have hs4 : IntKind.i64.wrap (pc + r) = pc + r := wrap_in (by omega) (by omega)
      have hs5 : IntKind.i64.wrap (y + u) = y + u := wrap_in (by omega) (by omega)
      have hs3 : ((i : Int) + 1).toNat = i + 1 := by omega
      obtain ⟨a1, a2, a3, a4, a5, a6, a7, a8, a9⟩ := HS2.out.apart Hb0.out Hd0.out Hd1.out
      go_region_held3 (fun w' => w'.cell? ⟨p, 4, none⟩ = some (.slice (some ⟨gL, 0, none⟩) Ls.length cL) ∧ w'.cell? ⟨p, 5, none⟩ = some (.slice (some ⟨gW, 0, none⟩) Ws.length cW) ∧ w'.cell? ⟨gL, i, none⟩ = some (.slice (some ⟨b0, 0, none⟩) all all) ∧
          w'.cell? ⟨gW, i, none⟩ = some (.slice (some ⟨d0, 0, none⟩) all all) ∧ w'.cell? ⟨gW, i + 1, none⟩ = some (.slice (some ⟨d1, 0, none⟩) all all) ∧ w'.cell? ⟨d1, nxt mask j, none⟩ = some (.int .i64 u)) (first
          | exact ⟨x4, x5, e0, f0, f3, f4⟩
          | exact ⟨keep_cell x4 a1, keep_cell x5 a1, keep_cell e0 a2, keep_cell f0 a3, keep_cell f3 a3, keep_cell f4 a5⟩
          | exact ⟨keep_cell2 x4 a1 a6, keep_cell2 x5 a1 a6, keep_cell2 e0 a2 a7, keep_cell2 f0 a3 a8, keep_cell2 f3 a3 a8, keep_cell2 f4 a5 a9⟩) (fail)
      clear hs1 hs2 hs3 hs4 hs5 a1 a2 a3 a4 a5 a6 a7 a8 a9
      go_wp2
      go_roundg (m.col.length + 1 - (t + 1))
      case measure => omega
      case rel => exact ⟨t + 1, pc + r, u, by omega, by go_num, HR.out.1.symm, HR.out.2.symm, HS3.out.drew, HC3.out.drew, HB3.out.drew⟩
    · have HR := Lib.hid (show mn (soFar m F k i mask (t + 1)) = x ∧ tieN (soFar m F k i mask (t + 1)) = y + u by
        have h := mn_same (l := soFar m F k i mask t) (c := pc) (soFar_nonneg hok F k i mask t) (costs_nonneg hok F k (i + 1) (nxt mask j)) hpr (by rw [HRr.out]; omega) (by rw [← HX.out]; omega) (by rw [HRr.out, ← HX.out]; simpa using q3)
        rw [← HPp.out, ← HV.out] at h
        exact ⟨h.1.trans HX.out.symm, h.2.trans (by rw [← HY.out, HUu.out])⟩)
      have HS3 := Lib.hid (HS2.out.storeW HEW.out Hd0.out (y + u))
      have HC3 := Lib.hid (HC2.out.other (a := ⟨d0, mask, none⟩) (by show d0 ≠ g; omega) (.int .i64 (y + u)))
      have HB3 := Lib.hid (bl_set (p := ⟨d0, mask, none⟩) HB2.out (.int .i64 (y + u)) hd0l)
      have hs2 : (0 : Int) ≤ (i : Int) + 1 := by omega
      have hs1 : IntKind.i64.wrap ((i : Int) + 1) = (i : Int) + 1 := wrap_in (by omega) (by omega)
      have hs4 : IntKind.i64.wrap (pc + r) = pc + r := wrap_in (by omega) (by omega)
      have hs5 : IntKind.i64.wrap (y + u) = y + u := wrap_in (by omega) (by omega)
      have hs3 : ((i : Int) + 1).toNat = i + 1 := by omega
      refine wp_region_still_tail 23 (by kernel_rfl) (by kernel_rfl) ?_
      simp only [List.take_succ_cons, List.take_zero, List.drop_succ_cons, List.drop_zero]
      change wpStill _ _ (World.drew _) _ _ _
      (repeat still_step)
      refine wpStill_nil ?_
      change wpList _ _ _ _ _ (World.drew _)
      clear hs1 hs2 hs3 hs4 hs5
      go_wp2
      go_roundg (m.col.length + 1 - (t + 1))
      case measure => omega
      case rel => exact ⟨t + 1, x, y + u, by omega, by go_num, HR.out.1.symm, HR.out.2.symm, HS3.out.drew, HC3.out.drew, HB3.out.drew⟩
    · have HR := Lib.hid (show mn (soFar m F k i mask (t + 1)) = x ∧ tieN (soFar m F k i mask (t + 1)) = y by
        have h := mn_more (l := soFar m F k i mask t) (c := pc) (soFar_nonneg hok F k i mask t) (costs_nonneg hok F k (i + 1) (nxt mask j)) hpr (by rw [HRr.out]; omega) (by rw [← HX.out]; omega) (by rw [HRr.out, ← HX.out]; exact q4)
        rw [← HPp.out, ← HV.out] at h
        exact ⟨h.1.trans HX.out.symm, h.2.trans HY.out.symm⟩)
      go_roundg (m.col.length + 1 - (t + 1))
      case measure => omega
      case rel => exact ⟨t + 1, x, y, by omega, by go_num, HR.out.1.symm, HR.out.2.symm, HS2.out, HC2.out, HB2.out⟩
end Go.Proofs.Ytepceaoccnmkiaa
