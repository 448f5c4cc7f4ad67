/-
  Layer 42 (agency): the walks of the reference's Total; of Check, the program's and the reference's.
-/
import Derived.Test.YtmjbbpappigngaaGreatExcTot
namespace Go.Tw.Exc
open Go.RowKit Go.Tw
theorem check_h {f : Fil} (h : headC f.fr f.to f.sq ≠ 0) : checkC f = headC f.fr f.to f.sq := by unfold checkC; rw [if_pos h]
theorem check_l {f : Fil} (h : headC f.fr f.to f.sq = 0) (hl : 1024 < f.rs.length) : checkC f = 3 := by unfold checkC; rw [if_neg (by simp [h]), if_pos hl]
theorem check_r {f : Fil} (h : headC f.fr f.to f.sq = 0) (hl : f.rs.length ≤ 1024) (hr : rightsC f.rs ≠ 0) : checkC f = rightsC f.rs := by unfold checkC; rw [if_neg (by simp [h]), if_neg (by omega), if_pos hr]
theorem check_t {f : Fil} (h : headC f.fr f.to f.sq = 0) (hl : f.rs.length ≤ 1024) (hr : rightsC f.rs = 0) : checkC f = errSum (sumZ (amts f.rs)) := by unfold checkC errSum; rw [if_neg (by simp [h]), if_neg (by omega), if_neg (by simp [hr])]
theorem rights_fit {l : List Rec} (h : rightsC l = 0) : Fit l := fun r hr ha => right_fits (rights_ok h r hr) ha
end Go.Tw.Exc
namespace Go.Proofs.YtmjbbpappigngaaGreat
open Go.RowKit Go.Tw Go.Tw.Exc
set_option maxRecDepth 100000 in
set_option maxHeartbeats 2000000 in
theorem TotalR_any (f : Fil) (v : Value) (w : World) (h : SlIs tRec (· < w.heap.size) w v f.rs) (hl : f.rs.length ≤ 1024) (hf : Fit f.rs) :
    Calls Tryz.prog 40 #[.agg #[.string f.fr, .string f.to, .int .i64 f.sq, v]] w fun e w' => e = .returned (.tuple #[.int .i64 (okSum (sumZ (amts f.rs))), .int .i64 (errSum (sumZ (amts f.rs)))]) ∧ Below w.heap.size w w' := by
  obtain ⟨ao, cap, b, off, rfl, h1, h2, ho⟩ := rec_open h
  unfold maxLen at h2
  have HF := Lib.hid hf
  have HB := Lib.hid (FilW.start w f (.slice ao f.rs.length cap))
  clear h hf
  go_enter Tryz.func40, Tryz.ntmps40
  go_wp2
  go_loopg [5, 4] f.rs.length (fun g i s wr => ∃ (k : Nat) (n : Int), k + g = f.rs.length ∧ i = .int .i64 k ∧ s = .int .i64 n ∧ Hid (n = sumZ (amts (f.rs.take k))) ∧ -(k : Int) * 1125899906842624 ≤ n ∧ n ≤ (k : Int) * 1125899906842624 ∧ FilW w f (.slice ao f.rs.length cap) wr)
  case atStart => exact ⟨0, 0, by omega, rfl, rfl, Lib.hid rfl, by omega, by omega, HB.out⟩
  case round =>
    obtain ⟨k, n, hk, rfl, rfl, HN, hn1, hn2, hbx⟩ := hrel
    have HB1 := Lib.hid hbx
    have hlw := lt_of_heap hbx.1
    obtain ⟨d0, d1, d2, d3, -⟩ := blk4 hbx.1
    by_cases hlt : k < f.rs.length
    · obtain ⟨rfl, -, hb, hok, c0, c1, c2, c3, c4⟩ := ho wr (.of_below hbx.2) k hlt
      have HA := Lib.hid (amts_take hlt)
      have hfi := HF.out f.rs[k] (List.getElem_mem hlt)
      obtain ⟨L, hL⟩ : ∃ L, amts (f.rs.take k) = L := ⟨_, rfl⟩
      rw [hL] at HN HA
      obtain ⟨r, hr⟩ : ∃ r, f.rs[k] = r := ⟨_, rfl⟩
      rw [hr] at hok c0 c1 c2 c3 c4 HA hfi
      have k0 : (0 : Int) ≤ (k : Int) := by omega
      have k1 : (k : Int) < (f.rs.length : Int) := by omega
      have hko := hok.k
      unfold i64ok at hko
      clear hr hL ho hok hbx
      have hcase : (isAmt r = true ∧ ((r.k != 1) = false ∨ ((r.k != 1) = true ∧ (r.k != 2) = false))) ∨ (isAmt r = false ∧ (r.k != 1) = true ∧ (r.k != 2) = true) := by
        unfold isAmt
        by_cases e1 : r.k = 1
        · simp [e1]
        · by_cases e2 : r.k = 2 <;> simp [e1, e2]
      rcases hcase with ⟨q, hq⟩ | ⟨q, q1, q2⟩
      · have HT := Lib.hid (HA.out.trans (if_pos q))
        obtain ⟨f1, f2⟩ := hfi q
        have hfx := fits_yes f1 f2
        have HX := Lib.hid (show ∀ W, Calls Tryz.prog 61 #[.int .i64 r.c] W fun e w' => e = .returned (.bool true) ∧ W = w' from fun W => by rw [← hfx]; exact fitsR_any r.c W)
        clear hfx q
        rcases hq with q1 | ⟨q1, q2⟩
        all_goals
          go_wp2_with (go_at_call 61; refine (HX.out _).mono ?_; rintro e w1 ⟨rfl, rfl⟩)
          go_roundg (f.rs.length - (k + 1))
          case measure => omega
          case rel => exact ⟨k + 1, n + r.c, by omega, by go_num, by go_num, Lib.hid (by rw [HT.out, sumZ_snoc, HN.out]), by omega, by omega, HB1.out.below (bl_alloc (Below.refl _ _) _)⟩
      · have HT := Lib.hid (HA.out.trans (if_neg (by simp [q])))
        clear q hfi
        go_wp2
        go_roundg (f.rs.length - (k + 1))
        case measure => omega
        case rel => exact ⟨k + 1, n, by omega, by go_num, rfl, Lib.hid (by rw [HT.out]; exact HN.out), by omega, by omega, HB1.out.below (bl_alloc (Below.refl _ _) _)⟩
    · obtain rfl : k = f.rs.length := by omega
      have hkd : decide ((f.rs.length : Int) < (f.rs.length : Int)) = false := by simp
      have HN2 := Lib.hid (show n = sumZ (amts f.rs) by have := HN.out; rwa [List.take_length] at this)
      clear ho hlt HN hbx
      cases hfs : fits n
      all_goals
        have HS := Lib.hid (show ∀ W, Calls Tryz.prog 61 #[.int .i64 n] W fun e w' => e = .returned (.bool _) ∧ W = w' from fun W => by have := fitsR_any n W; rw [hfs] at this; exact this)
        have HO := Lib.hid (okSum_b hfs).1
        have HE := Lib.hid (okSum_b hfs).2
        clear hfs
        go_wp2_with (go_at_call 61; refine (HS.out _).mono ?_; rintro e w1 ⟨rfl, rfl⟩)
        go_ret2
        exact ⟨by rw [← HN2.out, HO.out, HE.out]; rfl, HB1.out.2⟩
set_option maxRecDepth 100000 in
set_option maxHeartbeats 2000000 in
theorem check_any (f : Fil) (v : Value) (w : World) (h : SlIs tRec (· < w.heap.size) w v f.rs) :
    Calls Tryz.prog 56 #[.agg #[.string f.fr, .string f.to, .int .i64 f.sq, v]] w fun e w' => e = .returned (.int .i64 (checkC f)) ∧ Below w.heap.size w w' := by
  have HV := Lib.hid h
  obtain ⟨ao, cap, b, off, rfl, h1, h2, ho⟩ := rec_open h
  unfold maxLen at h2
  have HB := Lib.hid (FilW.start w f (.slice ao f.rs.length cap))
  have HH := Lib.hid (show ∀ W, Calls Tryz.prog 70 #[.agg #[.string f.fr, .string f.to, .int .i64 f.sq, .slice ao f.rs.length cap]] W fun e w' => e = .returned (.int .i64 (headC f.fr f.to f.sq)) ∧ Below W.heap.size W w' from fun W => head_any f ao f.rs.length cap W)
  clear h
  by_cases q1 : headC f.fr f.to f.sq = 0
  case neg =>
    have HC := Lib.hid (check_h q1)
    have hq : (headC f.fr f.to f.sq != 0) = true := by simpa using q1
    obtain ⟨hh, hhh⟩ : ∃ x, headC f.fr f.to f.sq = x := ⟨_, rfl⟩
    rw [hhh] at HC HH hq
    clear q1 hhh ho
    go_enter Tryz.func56, Tryz.ntmps56
    go_wp2_with (fail)
    refine (HH.out _).mono ?_
    rintro e w1 ⟨rfl, hb1⟩
    have HB1 := Lib.hid (HB.out.below hb1)
    clear hb1
    go_wp2_with (fail)
    go_ret
    exact ⟨ret_int HC.out, HB1.out.2⟩
  rw [q1] at HH
  by_cases q2 : 1024 < f.rs.length
  · have HC := Lib.hid (check_l q1 q2)
    have hq : (1024 : Int) < (f.rs.length : Int) := by omega
    clear q1 q2 ho
    go_enter Tryz.func56, Tryz.ntmps56
    go_wp2_with (fail)
    refine (HH.out _).mono ?_
    rintro e w1 ⟨rfl, hb1⟩
    have HB1 := Lib.hid (HB.out.below hb1)
    obtain ⟨d0, d1, d2, d3, -⟩ := blk4 HB1.out.1
    clear hb1
    go_wp2_with (fail)
    go_ret
    exact ⟨ret_int HC.out, HB1.out.2⟩
  have hq : ¬ (1024 : Int) < (f.rs.length : Int) := by omega
  have HCR := Lib.hid (check_r (f := f) q1 (by omega))
  have HCT := Lib.hid (check_t (f := f) q1 (by omega))
  clear q1
  go_enter Tryz.func56, Tryz.ntmps56
  go_wp2_with (fail)
  refine (HH.out _).mono ?_
  rintro e w1 ⟨rfl, hb1⟩
  have HB1 := Lib.hid (HB.out.below hb1)
  obtain ⟨d0, d1, d2, d3, -⟩ := blk4 HB1.out.1
  clear hb1 HH
  go_wp2_with (fail)
  clear d0 d1 d2 d3
  go_loopg [21] f.rs.length (fun g i wr => ∃ (k : Nat), k + g = f.rs.length ∧ i = .int .i64 k ∧ Hid (rightsC f.rs = rightsC (f.rs.drop k)) ∧ FilW w f (.slice ao f.rs.length cap) wr)
  case atStart => exact ⟨0, by omega, rfl, Lib.hid rfl, HB1.out⟩
  case round =>
    clear HB HB1
    obtain ⟨k, hk, rfl, HN, hbx⟩ := hrel
    have HB := Lib.hid hbx
    have hlw := lt_of_heap hbx.1
    obtain ⟨d0, d1, d2, d3, -⟩ := blk4 hbx.1
    by_cases hlt : k < f.rs.length
    · obtain ⟨rfl, -, hb, hok, c0, c1, c2, c3, c4⟩ := ho wr (.of_below hbx.2) k hlt
      have HD := Lib.hid (HN.out.trans (rights_drop hlt))
      obtain ⟨r, hr⟩ : ∃ r, f.rs[k] = r := ⟨_, rfl⟩
      rw [hr] at hok c0 c1 c2 c3 c4 HD
      have HR := Lib.hid (fun W => right_any r hok W)
      have k0 : (0 : Int) ≤ (k : Int) := by omega
      have k1 : (k : Int) < (f.rs.length : Int) := by omega
      clear hr ho hok hbx
      by_cases q3 : rightC r = 0
      · have HD2 := Lib.hid (HD.out.trans (if_neg (by simp [q3])))
        rw [q3] at HR
        clear q3 HD
        go_wp2_with (fail)
        refine (HR.out _).mono ?_
        rintro e w2 ⟨rfl, hb2⟩
        have HB2 := Lib.hid ((HB.out.below (bl_alloc (Below.refl _ _) _)).below hb2)
        clear hb2
        go_wp2_with (fail)
        go_roundg (f.rs.length - (k + 1))
        case measure => omega
        case rel => exact ⟨k + 1, by omega, by go_num, HD2, HB2.out⟩
      · have HD2 := Lib.hid (HD.out.trans (if_pos q3))
        have hq3 : (rightC r != 0) = true := by simpa using q3
        have HC := Lib.hid ((HCR.out (by rw [HD2.out]; exact q3)).trans HD2.out)
        obtain ⟨x, hx⟩ : ∃ x, rightC r = x := ⟨_, rfl⟩
        rw [hx] at HR HC hq3
        clear q3 hx HD HD2
        go_wp2_with (fail)
        refine (HR.out _).mono ?_
        rintro e w2 ⟨rfl, hb2⟩
        have HB2 := Lib.hid ((HB.out.below (bl_alloc (Below.refl _ _) _)).below hb2)
        clear hb2
        go_wp2_with (fail)
        go_ret
        exact ⟨ret_int HC.out, HB2.out.2⟩
    · obtain rfl : k = f.rs.length := by omega
      have hkd : decide ((f.rs.length : Int) < (f.rs.length : Int)) = false := by simp
      have hr0 : rightsC f.rs = 0 := by rw [HN.out, rights_end (Nat.le_refl _)]
      have HC := Lib.hid (HCT.out hr0)
      have HT := Lib.hid (Total_any f (.slice ao f.rs.length cap) wr (HV.out.step hbx.2) (by omega) (rights_fit hr0))
      clear ho hlt HN hbx hr0
      go_wp2_with (fail)
      refine HT.out.mono ?_
      rintro e w2 ⟨rfl, hb2⟩
      have HB2 := Lib.hid (HB.out.below hb2)
      clear hb2
      go_wp2_with (fail)
      go_ret
      exact ⟨ret_int HC.out, HB2.out.2⟩
set_option maxRecDepth 100000 in
set_option maxHeartbeats 2000000 in
theorem checkR_any (f : Fil) (v : Value) (w : World) (h : SlIs tRec (· < w.heap.size) w v f.rs) :
    Calls Tryz.prog 15 #[.agg #[.string f.fr, .string f.to, .int .i64 f.sq, v]] w fun e w' => e = .returned (.int .i64 (checkC f)) ∧ Below w.heap.size w w' := by
  have HV := Lib.hid h
  obtain ⟨ao, cap, b, off, rfl, h1, h2, ho⟩ := rec_open h
  unfold maxLen at h2
  have HB := Lib.hid (FilW.start w f (.slice ao f.rs.length cap))
  have HH := Lib.hid (show ∀ W, Calls Tryz.prog 38 #[.agg #[.string f.fr, .string f.to, .int .i64 f.sq, .slice ao f.rs.length cap]] W fun e w' => e = .returned (.int .i64 (headC f.fr f.to f.sq)) ∧ Below W.heap.size W w' from fun W => headR_any f ao f.rs.length cap W)
  clear h
  by_cases q1 : headC f.fr f.to f.sq = 0
  case neg =>
    have HC := Lib.hid (check_h q1)
    have hq : (headC f.fr f.to f.sq != 0) = true := by simpa using q1
    obtain ⟨hh, hhh⟩ : ∃ x, headC f.fr f.to f.sq = x := ⟨_, rfl⟩
    rw [hhh] at HC HH hq
    clear q1 hhh ho
    go_enter Tryz.func15, Tryz.ntmps15
    go_wp2_with (fail)
    refine (HH.out _).mono ?_
    rintro e w1 ⟨rfl, hb1⟩
    have HB1 := Lib.hid (HB.out.below hb1)
    clear hb1
    go_wp2_with (fail)
    go_ret
    exact ⟨ret_int HC.out, HB1.out.2⟩
  rw [q1] at HH
  by_cases q2 : 1024 < f.rs.length
  · have HC := Lib.hid (check_l q1 q2)
    have hq : (1024 : Int) < (f.rs.length : Int) := by omega
    clear q1 q2 ho
    go_enter Tryz.func15, Tryz.ntmps15
    go_wp2_with (fail)
    refine (HH.out _).mono ?_
    rintro e w1 ⟨rfl, hb1⟩
    have HB1 := Lib.hid (HB.out.below hb1)
    obtain ⟨d0, d1, d2, d3, -⟩ := blk4 HB1.out.1
    clear hb1
    go_wp2_with (fail)
    go_ret
    exact ⟨ret_int HC.out, HB1.out.2⟩
  have hq : ¬ (1024 : Int) < (f.rs.length : Int) := by omega
  have HCR := Lib.hid (check_r (f := f) q1 (by omega))
  have HCT := Lib.hid (check_t (f := f) q1 (by omega))
  clear q1
  go_enter Tryz.func15, Tryz.ntmps15
  go_wp2_with (fail)
  refine (HH.out _).mono ?_
  rintro e w1 ⟨rfl, hb1⟩
  have HB1 := Lib.hid (HB.out.below hb1)
  obtain ⟨d0, d1, d2, d3, -⟩ := blk4 HB1.out.1
  clear hb1 HH
  go_wp2_with (fail)
  clear d0 d1 d2 d3
  go_loopg [4] f.rs.length (fun g i wr => ∃ (k : Nat), k + g = f.rs.length ∧ i = .int .i64 k ∧ Hid (rightsC f.rs = rightsC (f.rs.drop k)) ∧ FilW w f (.slice ao f.rs.length cap) wr)
  case atStart => exact ⟨0, by omega, rfl, Lib.hid rfl, HB1.out⟩
  case round =>
    clear HB HB1
    obtain ⟨k, hk, rfl, HN, hbx⟩ := hrel
    have HB := Lib.hid hbx
    have hlw := lt_of_heap hbx.1
    obtain ⟨d0, d1, d2, d3, -⟩ := blk4 hbx.1
    by_cases hlt : k < f.rs.length
    · obtain ⟨rfl, -, hb, hok, c0, c1, c2, c3, c4⟩ := ho wr (.of_below hbx.2) k hlt
      have HD := Lib.hid (HN.out.trans (rights_drop hlt))
      obtain ⟨r, hr⟩ : ∃ r, f.rs[k] = r := ⟨_, rfl⟩
      rw [hr] at hok c0 c1 c2 c3 c4 HD
      have HR := Lib.hid (fun W => rightR_any r hok W)
      have k0 : (0 : Int) ≤ (k : Int) := by omega
      have k1 : (k : Int) < (f.rs.length : Int) := by omega
      clear hr ho hok hbx
      by_cases q3 : rightC r = 0
      · have HD2 := Lib.hid (HD.out.trans (if_neg (by simp [q3])))
        rw [q3] at HR
        clear q3 HD
        go_wp2_with (fail)
        refine (HR.out _).mono ?_
        rintro e w2 ⟨rfl, hb2⟩
        have HB2 := Lib.hid (HB.out.below hb2)
        clear hb2
        go_wp2_with (fail)
        go_roundg (f.rs.length - (k + 1))
        case measure => omega
        case rel => exact ⟨k + 1, by omega, by go_num, HD2, HB2.out⟩
      · have HD2 := Lib.hid (HD.out.trans (if_pos q3))
        have hq3 : (rightC r != 0) = true := by simpa using q3
        have HC := Lib.hid ((HCR.out (by rw [HD2.out]; exact q3)).trans HD2.out)
        obtain ⟨x, hx⟩ : ∃ x, rightC r = x := ⟨_, rfl⟩
        rw [hx] at HR HC hq3
        clear q3 hx HD HD2
        go_wp2_with (fail)
        refine (HR.out _).mono ?_
        rintro e w2 ⟨rfl, hb2⟩
        have HB2 := Lib.hid (HB.out.below hb2)
        clear hb2
        go_wp2_with (fail)
        go_ret
        exact ⟨ret_int HC.out, HB2.out.2⟩
    · obtain rfl : k = f.rs.length := by omega
      have hkd : decide ((f.rs.length : Int) < (f.rs.length : Int)) = false := by simp
      have hr0 : rightsC f.rs = 0 := by rw [HN.out, rights_end (Nat.le_refl _)]
      have HC := Lib.hid (HCT.out hr0)
      have HT := Lib.hid (TotalR_any f (.slice ao f.rs.length cap) wr (HV.out.step hbx.2) (by omega) (rights_fit hr0))
      clear ho hlt HN hbx hr0
      go_wp2_with (fail)
      refine HT.out.mono ?_
      rintro e w2 ⟨rfl, hb2⟩
      have HB2 := Lib.hid (HB.out.below hb2)
      clear hb2
      go_wp2_with (fail)
      go_ret
      exact ⟨ret_int HC.out, HB2.out.2⟩
end Go.Proofs.YtmjbbpappigngaaGreat
