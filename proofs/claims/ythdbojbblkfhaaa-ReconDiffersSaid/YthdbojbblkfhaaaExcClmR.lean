/-
  Layer 43 (exchange): the walks of the reference's Amount, sum and Claims.
-/
import Derived.Test.YthdbojbblkfhaaaExcClmP
import Derived.Lib.QuietBelow
namespace Go.Proofs.Ythdbojbblkfhaaa
open Go.RowKit Go.Tw Go.Tw.Exc
theorem after_ways (n : Int) (r : Rec) : ((r.k = 1 ∨ r.k = 2) ∧ afterC n r = n + r.c) ∨ (r.k = 4 ∧ afterC n r = n - r.c) ∨ (r.k = 3 ∧ afterC n r = 0) ∨ ((r.k ≠ 1 ∧ r.k ≠ 2 ∧ r.k ≠ 3 ∧ r.k ≠ 4) ∧ afterC n r = n) := by
  unfold afterC
  by_cases h1 : r.k = 1 ∨ r.k = 2
  · exact .inl ⟨h1, if_pos h1⟩
  · by_cases h2 : r.k = 4
    · exact .inr (.inl ⟨h2, by rw [if_neg h1, if_pos h2]⟩)
    · by_cases h3 : r.k = 3
      · exact .inr (.inr (.inl ⟨h3, by rw [if_neg h1, if_neg h2, if_pos h3]⟩))
      · exact .inr (.inr (.inr ⟨by omega, by rw [if_neg h1, if_neg h2, if_neg h3]⟩))
set_option maxRecDepth 100000 in
set_option maxHeartbeats 4000000 in
theorem amount_any (l : List Rec) (y : ByteArray) (v : Value) (w : World) (h : SlIs tRec (· < w.heap.size) w v l) (hlen : l.length ≤ 1000) (hc : ∀ r ∈ l, -1125899906842624 ≤ r.c ∧ r.c ≤ 1125899906842624) :
    Calls Try.prog 65 #[v, .string y] w fun e w' => e = .returned (.int .i64 (amountC l y)) ∧ w = w' := by
  obtain ⟨ao, cp, bb, off, rfl, h1, h2, ho⟩ := rec_open h
  unfold maxLen at h2
  have HAB := Lib.hid (amount_in hc y)
  have HCC := Lib.hid hc
  clear h hc
  go_enter Try.func65, Try.ntmps65
  go_wp2
  go_loopg [6, 5] l.length (fun g i s wr => ∃ (k : Nat) (n : Int), k + g = l.length ∧ i = .int .i64 k ∧ s = .int .i64 n ∧ Hid (n = amountC (l.take k) y) ∧ w = wr)
  case atStart => exact ⟨0, 0, by omega, rfl, rfl, Lib.hid rfl, rfl⟩
  case round =>
    obtain ⟨k, n, hk, rfl, rfl, HS, rfl⟩ := hrel
    by_cases hlt : k < l.length
    · obtain ⟨rfl, -, hbs, hok, d0, d1, d2, d3, d4⟩ := ho w (SameOn.refl _ _) k hlt
      have hb := HAB.out k (by omega)
      rw [← HS.out] at hb
      have hxc := HCC.out _ (List.getElem_mem hlt)
      have hst := amount_take hlt y
      rw [← HS.out] at hst
      have HST := Lib.hid hst
      obtain ⟨x, hx⟩ : ∃ x, l[k] = x := ⟨_, rfl⟩
      rw [hx] at d0 d1 d2 d3 d4 HST hxc
      have k0 : (0 : Int) ≤ (k : Int) := by omega
      have k1 : (k : Int) < (l.length : Int) := by omega
      clear hx hst hok ho
      by_cases hkey : x.key = y
      case neg =>
        have hq : (x.key.toList == y.toList) = false := by rw [str_eq]; simp [hkey]
        have HS2 := Lib.hid (show n = amountC (l.take (k + 1)) y by rw [HST.out, if_neg hkey])
        clear hkey hb hxc
        go_wp2
        go_roundg (l.length - (k + 1))
        case measure => omega
        case rel => exact ⟨k + 1, _, by omega, by go_num, rfl, HS2, rfl⟩
      have hq : (x.key.toList == y.toList) = true := by rw [str_eq]; simp [hkey]
      have HK := Lib.hid hkey
      have hw1 : IntKind.i64.wrap (n + x.c) = n + x.c := wrap_in (by omega) (by omega)
      have hw2 : IntKind.i64.wrap (n - x.c) = n - x.c := wrap_in (by omega) (by omega)
      clear hkey hb hxc
      rcases after_ways n x with ⟨e1, e2⟩ | ⟨e1, e2⟩ | ⟨e1, e2⟩ | ⟨e1, e2⟩
      · have HS2 := Lib.hid (show n + x.c = amountC (l.take (k + 1)) y by rw [HST.out, if_pos HK.out, e2])
        clear e2
        rcases e1 with e1 | e1
        · have q1 : (x.k == 1) = true := by rw [beq_iff_eq]; exact e1
          clear e1
          go_wp2
          go_roundg (l.length - (k + 1))
          case measure => omega
          case rel => exact ⟨k + 1, _, by omega, by go_num, rfl, HS2, rfl⟩
        · have q1 : (x.k == 1) = false := by rw [beq_eq_false_iff_ne]; omega
          have q2 : (x.k == 2) = true := by rw [beq_iff_eq]; exact e1
          clear e1
          go_wp2
          go_roundg (l.length - (k + 1))
          case measure => omega
          case rel => exact ⟨k + 1, _, by omega, by go_num, rfl, HS2, rfl⟩
      · have HS2 := Lib.hid (show n - x.c = amountC (l.take (k + 1)) y by rw [HST.out, if_pos HK.out, e2])
        clear e2
        have q1 : (x.k == 1) = false := by rw [beq_eq_false_iff_ne]; omega
        have q2 : (x.k == 2) = false := by rw [beq_eq_false_iff_ne]; omega
        have q4 : (x.k == 4) = true := by rw [beq_iff_eq]; exact e1
        clear e1
        go_wp2
        go_roundg (l.length - (k + 1))
        case measure => omega
        case rel => exact ⟨k + 1, _, by omega, by go_num, rfl, HS2, rfl⟩
      · have HS2 := Lib.hid (show 0 = amountC (l.take (k + 1)) y by rw [HST.out, if_pos HK.out, e2])
        clear e2
        have q1 : (x.k == 1) = false := by rw [beq_eq_false_iff_ne]; omega
        have q2 : (x.k == 2) = false := by rw [beq_eq_false_iff_ne]; omega
        have q4 : (x.k == 4) = false := by rw [beq_eq_false_iff_ne]; omega
        have q3 : (x.k == 3) = true := by rw [beq_iff_eq]; exact e1
        clear e1
        go_wp2
        go_roundg (l.length - (k + 1))
        case measure => omega
        case rel => exact ⟨k + 1, _, by omega, by go_num, rfl, HS2, rfl⟩
      · have HS2 := Lib.hid (show n = amountC (l.take (k + 1)) y by rw [HST.out, if_pos HK.out, e2])
        clear e2
        have q1 : (x.k == 1) = false := by rw [beq_eq_false_iff_ne]; omega
        have q2 : (x.k == 2) = false := by rw [beq_eq_false_iff_ne]; omega
        have q4 : (x.k == 4) = false := by rw [beq_eq_false_iff_ne]; omega
        have q3 : (x.k == 3) = false := by rw [beq_eq_false_iff_ne]; omega
        clear e1
        go_wp2
        go_roundg (l.length - (k + 1))
        case measure => omega
        case rel => exact ⟨k + 1, _, by omega, by go_num, rfl, HS2, rfl⟩
    · obtain rfl : k = l.length := by omega
      have hkd : decide ((l.length : Int) < (l.length : Int)) = false := by simp
      have HC := Lib.hid (show n = amountC l y by have := HS.out; rwa [List.take_length] at this)
      clear ho hlt
      go_wp2
      go_ret
      exact ⟨ret_int HC.out.symm, rfl⟩
set_option maxRecDepth 100000 in
set_option maxHeartbeats 4000000 in
theorem sum_any (l : List Rec) (v : Value) (w : World) (h : SlIs tRec (· < w.heap.size) w v l) (hlen : l.length ≤ 200) (hc : ∀ r ∈ l, -1125899906842624 ≤ r.c ∧ r.c ≤ 1125899906842624) :
    Calls Try.prog 56 #[v] w fun e w' => e = .returned (.int .i64 (claimC l)) ∧ Below w.heap.size w w' := by
  have HPB := Lib.hid (part_bound hlen hc)
  have HAM := Lib.hid (show ∀ (y : ByteArray) (w' : World), Below w.heap.size w w' → Calls Try.prog 65 #[v, .string y] w' fun e w'' => e = .returned (.int .i64 (amountC l y)) ∧ w' = w'' from fun y w' hb => amount_any l y v w' (h.step hb) (by omega) hc)
  have HAB := Lib.hid (amount_in hc)
  obtain ⟨ao, cp, bb, off, rfl, h1, h2, ho⟩ := rec_open h
  unfold maxLen at h2
  have HO := Lib.hid ho
  clear h hc ho
  go_enter Try.func56, Try.ntmps56
  go_wp2
  go_loopg [4, 3] l.length (fun g i s wr => ∃ (k : Nat) (n : Int), k + g = l.length ∧ i = .int .i64 k ∧ s = .int .i64 n ∧ Hid (n = partC l k) ∧ Below w.heap.size w wr)
  case atStart => exact ⟨0, 0, by omega, rfl, rfl, Lib.hid rfl, Below.refl _ _⟩
  case round =>
    obtain ⟨k, n, hk, rfl, rfl, HS, hb⟩ := hrel
    have HB := Lib.hid hb
    by_cases hlt : k < l.length
    · obtain ⟨rfl, -, hbs, hok, d0, d1, d2, d3, d4⟩ := HO.out wr (.of_below hb) k hlt
      have hp1 := HPB.out (k + 1)
      have hp0 := HPB.out k
      rw [← HS.out] at hp0
      have hab := HAB.out l[k].key l.length (Nat.le_refl _)
      rw [List.take_length] at hab
      have HPN := Lib.hid (part_new hlt)
      have HPO := Lib.hid (part_old hlt)
      clear d0 d2 d3 d4 d1 hok
      have HY := Lib.hid (show ∀ w', Below w.heap.size w w' → ∀ m, m < l.length → w'.cell? ⟨bb, off + m * 5 + 1, none⟩ = some (.string (l.getD m ⟨0, ByteArray.empty, 0, 0, 0⟩).key) from fun w' hb' m hm => by
        rw [List.getD_eq_getElem?_getD, List.getElem?_eq_getElem hm]
        exact (HO.out w' (.of_below hb') m hm).2.2.2.2.2.1)
      have hyk : l[k] = l.getD k ⟨0, ByteArray.empty, 0, 0, 0⟩ := by rw [List.getD_eq_getElem?_getD, List.getElem?_eq_getElem hlt]; rfl
      rw [hyk] at hab
      have HYK := Lib.hid hyk
      clear hyk
      obtain ⟨y, hy⟩ : ∃ y, (l.getD k ⟨0, ByteArray.empty, 0, 0, 0⟩).key = y := ⟨_, rfl⟩
      have HYY := Lib.hid hy
      rw [hy] at hab
      have HAB2 := Lib.hid hab
      have k0 : (0 : Int) ≤ (k : Int) := by omega
      have k1 : (k : Int) < (l.length : Int) := by omega
      have HHP := Lib.hid (And.intro hp0 hp1)
      clear hy hb hab hp0 hp1
      go_wp2
      obtain ⟨wo, rfl⟩ : ∃ wo : World, wo = wr := ⟨_, rfl⟩
      go_loopg [6, 5] k (fun g i b wi => ∃ (m : Nat), m + g = k ∧ i = .int .i64 m ∧ b = .bool (newK l k m y) ∧ Below w.heap.size w wi)
      case atStart => exact ⟨0, by omega, rfl, by rw [newK_zero], HB.out⟩
      case round =>
        obtain ⟨wi, rfl⟩ : ∃ wi : World, wi = wr := ⟨_, rfl⟩
        obtain ⟨m, hm, rfl, rfl, hb⟩ := hrel
        have HBI := Lib.hid hb
        have e1 := HY.out wi hb k hlt
        rw [HYY.out] at e1
        clear hb
        by_cases hml : m < k
        · have hm2 : m < l.length := by omega
          have e2 := HY.out wi HBI.out m hm2
          have hmk : l[m] = l.getD m ⟨0, ByteArray.empty, 0, 0, 0⟩ := by rw [List.getD_eq_getElem?_getD, List.getElem?_eq_getElem hm2]; rfl
          have hns := newK_succ (k := k) hm2 y
          rw [hmk] at hns
          obtain ⟨z, hz⟩ : ∃ z, (l.getD m ⟨0, ByteArray.empty, 0, 0, 0⟩).key = z := ⟨_, rfl⟩
          rw [hz] at e2 hns
          have HNS := Lib.hid hns
          have m0 : (0 : Int) ≤ (m : Int) := by omega
          have m1 : (m : Int) < (l.length : Int) := by omega
          clear hns hmk hz
          cases hnb : newK l k m y
          · have HN := Lib.hid (show newK l k (m + 1) y = false by rw [HNS.out, hnb]; rfl)
            clear hnb
            go_wp2_with (go_quiet (fail))
            go_roundg (k - (m + 1))
            case measure => omega
            case rel => exact ⟨m + 1, by omega, by go_num, by rw [HN.out], bl_drewN HBI.out _⟩
          · by_cases hzy : z = y
            · have HN := Lib.hid (show newK l k (m + 1) y = false by rw [HNS.out, hnb]; simp [hzy])
              have hq : (z.toList == y.toList) = true := by rw [str_eq]; simp [hzy]
              clear hnb hzy
              go_wp2_with (go_quiet (fail))
              go_roundg (k - (m + 1))
              case measure => omega
              case rel => exact ⟨m + 1, by omega, by go_num, by rw [HN.out], bl_drewN HBI.out _⟩
            · have HN := Lib.hid (show newK l k (m + 1) y = true by rw [HNS.out, hnb]; simp [hzy])
              have hq : (z.toList == y.toList) = false := by rw [str_eq]; simp [hzy]
              clear hnb hzy
              go_wp2_with (go_quiet (fail))
              go_roundg (k - (m + 1))
              case measure => omega
              case rel => exact ⟨m + 1, by omega, by go_num, by rw [HN.out], bl_drewN HBI.out _⟩
        · obtain rfl : m = k := by omega
          have hkd : decide ((m : Int) < (m : Int)) = false := by simp
          clear hml hm
          cases hnb : newK l m m y
          · have HN := Lib.hid (show n = partC l (m + 1) by rw [HPO.out (by rw [HYK.out, HYY.out]; exact hnb)]; exact HS.out)
            clear hnb
            go_wp2
            go_roundg (l.length - (m + 1))
            case measure => omega
            case rel => exact ⟨m + 1, n, by omega, by go_num, rfl, HN, HBI.out⟩
          · have HN := Lib.hid (show n + amountC l y = partC l (m + 1) by
              rw [HPN.out (by rw [HYK.out, HYY.out]; exact hnb), HYK.out, HYY.out, HS.out])
            have hw1 : IntKind.i64.wrap (n + amountC l y) = n + amountC l y := by
              have := HHP.out.2
              rw [← HN.out] at this
              exact wrap_in (by omega) (by omega)
            clear hnb
            go_wp2_with (go_at_call 65; refine (HAM.out _ _ HBI.out).mono ?_; rintro e w' ⟨rfl, rfl⟩)
            go_roundg (l.length - (m + 1))
            case measure => omega
            case rel => exact ⟨m + 1, _, by omega, by go_num, rfl, HN, HBI.out⟩
    · obtain rfl : k = l.length := by omega
      have hkd : decide ((l.length : Int) < (l.length : Int)) = false := by simp
      have HC := Lib.hid (show n = claimC l by have := HS.out; rwa [part_end] at this)
      clear hlt hb
      go_wp2
      go_ret
      exact ⟨ret_int HC.out.symm, HB.out⟩
set_option maxRecDepth 100000 in
set_option maxHeartbeats 2000000 in
theorem claimsR_any (p : Par) (vw vo vt : Value) (w : World) (h : ParOk (· < w.heap.size) w p vw vo vt) (h1 : p.ours.length ≤ 200) (h2 : p.thr.length ≤ 200) (c1 : ∀ r ∈ p.ours, -1125899906842624 ≤ r.c ∧ r.c ≤ 1125899906842624) (c2 : ∀ r ∈ p.thr, -1125899906842624 ≤ r.c ∧ r.c ≤ 1125899906842624) :
    Calls Try.prog 27 #[.agg #[.string p.nm, .int .i64 p.out, .int .i64 p.inn, vw, vo, vt]] w fun e w' => e = .returned (.tuple #[.int .i64 (claimC p.ours), .int .i64 (claimC p.thr)]) ∧ Below w.heap.size w w' := by
  have HP := Lib.hid h
  obtain ⟨aw, cw, bw, ow, rfl, -⟩ := id h.wt
  obtain ⟨ao, co, bo, oo, rfl, -⟩ := id h.ours
  obtain ⟨at', ct, bt, ot, rfl, -⟩ := id h.thr
  have HC := Lib.hid (show (p.ours.length ≤ 200 ∧ p.thr.length ≤ 200) ∧ (∀ r ∈ p.ours, -1125899906842624 ≤ r.c ∧ r.c ≤ 1125899906842624) ∧ ∀ r ∈ p.thr, -1125899906842624 ≤ r.c ∧ r.c ≤ 1125899906842624 from ⟨⟨h1, h2⟩, c1, c2⟩)
  clear h h1 h2 c1 c2
  go_enter Try.func27, Try.ntmps27
  go_upto_region 1 with (fail)
  have n0 := heap_alloc_new w (.cells #[.string p.nm, .int .i64 p.out, .int .i64 p.inn, .slice aw p.wt.length cw, .slice ao p.ours.length co, .slice at' p.thr.length ct] 25)
  obtain ⟨wa, hwa⟩ : ∃ wa, w.alloc (.cells #[.string p.nm, .int .i64 p.out, .int .i64 p.inn, .slice aw p.wt.length cw, .slice ao p.ours.length co, .slice at' p.thr.length ct] 25) = wa := ⟨_, rfl⟩
  have HW := Lib.hid (show Below w.heap.size w wa by rw [← hwa]; exact bl_alloc (Below.refl _ _) _)
  rw [hwa] at n0 ⊢
  clear hwa
  obtain ⟨d0, d1, d2, d3, d4, d5, df⟩ := blk6' n0
  have k4 := cell_regrown d4
  have k5 := cell_regrown d5
  have HA := Lib.hid (show ∀ W, Below wa.heap.size wa W → Calls Try.prog 56 #[.slice ao p.ours.length co] W fun e w' => e = .returned (.int .i64 (claimC p.ours)) ∧ Below W.heap.size W w' from fun W hW => sum_any p.ours _ W (HP.out.ours.step (bl_trans HW.out hW)) HC.out.1.1 HC.out.2.1)
  have HBB := Lib.hid (show ∀ W, Below wa.heap.size wa W → Calls Try.prog 56 #[.slice at' p.thr.length ct] W fun e w' => e = .returned (.int .i64 (claimC p.thr)) ∧ Below W.heap.size W w' from fun W hW => sum_any p.thr _ W (HP.out.thr.step (bl_trans HW.out hW)) HC.out.1.2 HC.out.2.2)
  have cA := fun d os => Calls.regrown_of (HA.out _ (below_regrown wa d os))
  have cB := fun d os => Calls.regrown_of (HBB.out _ (below_regrown wa d os))
  clear n0 d0 d1 d2 d3 d4 d5 df
  refine wp_region_quiet_below (by kernel_rfl) (by kernel_rfl) ?_
  (repeat (quiet_step (first
    | (go_at_call 56; with_reducible exact cA _ _)
    | (go_at_call 56; with_reducible exact cB _ _))))
  refine wpQuiet_nil ?_
  intro _ hw'
  obtain ⟨⟨dq, osq⟩, hw''⟩ := hw'
  subst hw''
  go_wp2_with (fail)
  go_ret2
  exact ⟨rfl, bl_trans HW.out (below_regrown wa dq osq)⟩
end Go.Proofs.Ythdbojbblkfhaaa
