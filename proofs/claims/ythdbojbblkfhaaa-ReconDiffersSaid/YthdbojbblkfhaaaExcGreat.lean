/-
  Layer 43 (exchange): the walks of heavy and great.
-/
import Derived.Test.YthdbojbblkfhaaaExcAwake
namespace Go.Tw.Exc
open Go.RowKit Go.Tw
def longK (r : Rec) : Bool := decide (300 < r.key.size)
def heavyC (l : List Rec) : Bool := decide (1100 < l.length) || l.any longK
theorem heavy_len {l : List Rec} (h : heavyC l = false) : l.length ≤ 1100 := by
  unfold heavyC at h
  simp only [Bool.or_eq_false_iff, decide_eq_false_iff_not] at h
  omega
theorem heavy_big {l : List Rec} (h : 1100 < l.length) : heavyC l = true := by unfold heavyC; simp [h]
theorem heavy_any' {l : List Rec} (h : ¬ 1100 < l.length) : heavyC l = l.any longK := by unfold heavyC; simp [h]
end Go.Tw.Exc
namespace Go.Proofs.Ythdbojbblkfhaaa
open Go.RowKit Go.Tw Go.Tw.Exc
set_option maxRecDepth 100000 in
set_option maxHeartbeats 2000000 in
theorem heavy_any (l : List Rec) (v : Value) (w : World) (h : SlIs tRec (· < w.heap.size) w v l) :
    Calls Try.prog 13 #[v] w fun e w' => e = .returned (.bool (heavyC l)) ∧ Below w.heap.size w w' := by
  obtain ⟨ao, cap, b, off, rfl, h1, h2, ho⟩ := rec_open h
  unfold maxLen at h2
  clear h
  by_cases hb : 1100 < l.length
  · have HH := Lib.hid (heavy_big hb)
    have hq : (1100 : Int) < (l.length : Int) := by omega
    clear hb ho
    go_enter Try.func13, Try.ntmps13
    go_wp2
    go_ret
    exact ⟨ret_bool HH.out, Below.refl _ _⟩
  have HH := Lib.hid (heavy_any' hb)
  have hq : ¬ (1100 : Int) < (l.length : Int) := by omega
  clear hb
  go_enter Try.func13, Try.ntmps13
  go_wp2
  go_loopg [10] l.length (fun g i wr => ∃ (k : Nat), k + g = l.length ∧ i = .int .i64 k ∧ Hid (l.any longK = (l.drop k).any longK) ∧ Below w.heap.size w wr)
  case atStart => exact ⟨0, by omega, rfl, Lib.hid rfl, Below.refl _ _⟩
  case round =>
    obtain ⟨k, hk, rfl, HA, hbl⟩ := hrel
    have HB := Lib.hid hbl
    by_cases hlt : k < l.length
    · obtain ⟨rfl, -, hbs, hok, c0, c1, c2, c3, c4⟩ := ho wr (.of_below hbl) k hlt
      have HD := Lib.hid (show (l.drop k).any longK = (longK l[k] || (l.drop (k + 1)).any longK) by rw [List.drop_eq_getElem_cons hlt, List.any_cons])
      obtain ⟨x, hx⟩ : ∃ x, l[k] = x := ⟨_, rfl⟩
      rw [hx] at c0 c1 c2 c3 c4 HD
      have k0 : (0 : Int) ≤ (k : Int) := by omega
      have k1 : (k : Int) < (l.length : Int) := by omega
      clear hx hok ho hbl
      by_cases hs : 300 < x.key.size
      · have HT := Lib.hid (show heavyC l = true by rw [HH.out, HA.out, HD.out]; unfold longK; simp [hs])
        have hs' : (300 : Int) < (x.key.size : Int) := by omega
        clear hs
        go_wp2
        go_ret
        exact ⟨ret_bool HT.out, bl_alloc HB.out _⟩
      · have HT := Lib.hid (show l.any longK = (l.drop (k + 1)).any longK by rw [HA.out, HD.out]; unfold longK; simp [hs])
        have hs' : ¬ (300 : Int) < (x.key.size : Int) := by omega
        clear hs
        go_wp2
        go_roundg (l.length - (k + 1))
        case measure => omega
        case rel => exact ⟨k + 1, by omega, by go_num, HT, bl_alloc HB.out _⟩
    · obtain rfl : k = l.length := by omega
      have hkd : decide ((l.length : Int) < (l.length : Int)) = false := by simp
      have HT := Lib.hid (show heavyC l = false by rw [HH.out, HA.out, List.drop_length]; rfl)
      clear ho hlt hbl
      go_wp2
      go_ret
      exact ⟨ret_bool HT.out, HB.out⟩
def GreatE (p : Par) (w : World) (e : Ending) (w' : World) : Prop := (∃ b, e = .returned (.bool b) ∧ (b = false → SmallP p)) ∧ Below w.heap.size w w'
set_option maxRecDepth 100000 in
set_option maxHeartbeats 4000000 in
theorem great_any (p : Par) (vw vo vt : Value) (w : World) (h : ParOk (· < w.heap.size) w p vw vo vt) :
    Calls Try.prog 12 #[.agg #[.string p.nm, .int .i64 p.out, .int .i64 p.inn, vw, vo, vt]] w (GreatE p w) := by
  have HP := Lib.hid h
  obtain ⟨aw, cw, bw, ow, rfl, hw1, hw2, how⟩ := fil_open h.wt
  obtain ⟨ao, co, bo, oo, rfl, -⟩ := id h.ours
  obtain ⟨at', ct, bt, ot, rfl, -⟩ := id h.thr
  unfold maxLen at hw2
  clear h
  have HYES := Lib.hid (show ∀ W, Below w.heap.size w W → GreatE p w (.returned (.bool true)) W from fun W hb => ⟨⟨true, rfl, fun h => by cases h⟩, hb⟩)
  have HHV := Lib.hid (show ∀ l v W, SlIs tRec (· < W.heap.size) W v l → Calls Try.prog 13 #[v] W fun e w' => e = .returned (.bool (heavyC l)) ∧ Below W.heap.size W w' from heavy_any)
  have n0 := heap_alloc_new w (.cells #[.string p.nm, .int .i64 p.out, .int .i64 p.inn, .slice aw p.wt.length cw, .slice ao p.ours.length co, .slice at' p.thr.length ct] 25)
  have HN := Lib.hid n0
  clear n0
  cases h1 : heavyC p.ours
  case true =>
    clear how
    go_enter Try.func12, Try.ntmps12
    go_wp2_with (go_at_call 13; refine (HHV.out p.ours _ _ (HP.out.ours.step (bl_alloc (Below.refl _ _) _))).mono ?_; rintro e w1 ⟨rfl, hb1⟩; rw [h1]; have HB1 := Lib.hid (bl_trans (bl_alloc (Below.refl w.heap.size w) _) hb1); obtain ⟨d0, d1, d2, d3, d4, d5, df⟩ := blk6' (Go.Tw.Below.at_old hb1 HN.out); clear hb1)
    go_ret
    exact HYES.out _ HB1.out
  cases h2 : heavyC p.thr
  case true =>
    clear how
    go_enter Try.func12, Try.ntmps12
    go_wp2_with (first
      | (go_at_call 13
         refine (HHV.out p.thr _ _ (HP.out.thr.step HB1.out)).mono ?_
         rintro e w2 ⟨rfl, hb2⟩
         rw [h2]
         have HB2 := Lib.hid (bl_trans HB1.out hb2)
         clear hb2)
      | (go_at_call 13
         refine (HHV.out p.ours _ _ (HP.out.ours.step (bl_alloc (Below.refl _ _) _))).mono ?_
         rintro e w1 ⟨rfl, hb1⟩
         rw [h1]
         have HB1 := Lib.hid (bl_trans (bl_alloc (Below.refl w.heap.size w) _) hb1)
         obtain ⟨d0, d1, d2, d3, d4, d5, df⟩ := blk6' (Go.Tw.Below.at_old hb1 HN.out)
         clear hb1))
    go_ret
    exact HYES.out _ HB2.out
  by_cases h3 : 40 < p.wt.length
  · have hq : (40 : Int) < (p.wt.length : Int) := by omega
    clear how h3
    go_enter Try.func12, Try.ntmps12
    go_wp2_with (first
      | (go_at_call 13
         refine (HHV.out p.thr _ _ (HP.out.thr.step HB1.out)).mono ?_
         rintro e w2 ⟨rfl, hb2⟩
         rw [h2]
         have HB2 := Lib.hid (bl_trans HB1.out hb2)
         obtain ⟨e0, e1, e2, e3, e4, e5, ef⟩ := blk6' (Go.Tw.Below.at_old hb2 HM1.out)
         clear hb2)
      | (go_at_call 13
         refine (HHV.out p.ours _ _ (HP.out.ours.step (bl_alloc (Below.refl _ _) _))).mono ?_
         rintro e w1 ⟨rfl, hb1⟩
         rw [h1]
         have HB1 := Lib.hid (bl_trans (bl_alloc (Below.refl w.heap.size w) _) hb1)
         have HM1 := Lib.hid (Go.Tw.Below.at_old hb1 HN.out)
         obtain ⟨d0, d1, d2, d3, d4, d5, df⟩ := blk6' HM1.out
         clear hb1))
    go_ret
    exact HYES.out _ HB2.out
  have hq : ¬ (40 : Int) < (p.wt.length : Int) := by omega
  have HNO := Lib.hid (show (∀ f ∈ p.wt, f.rs.length ≤ 1100) → SmallP p from fun h => ⟨by omega, fun f hf => Nat.le_trans (h f hf) (by decide), Nat.le_trans (heavy_len h1) (by decide), Nat.le_trans (heavy_len h2) (by decide)⟩)
  go_enter Try.func12, Try.ntmps12
  go_upto_region 4 with (first
    | (go_at_call 13
       refine (HHV.out p.thr _ _ (HP.out.thr.step HB1.out)).mono ?_
       rintro e w2 ⟨rfl, hb2⟩
       rw [h2]
       have HB2 := Lib.hid (bl_trans HB1.out hb2)
       obtain ⟨e0, e1, e2, e3, e4, e5, ef⟩ := blk6' (Go.Tw.Below.at_old hb2 HM1.out)
       clear hb2)
    | (go_at_call 13
       refine (HHV.out p.ours _ _ (HP.out.ours.step (bl_alloc (Below.refl _ _) _))).mono ?_
       rintro e w1 ⟨rfl, hb1⟩
       rw [h1]
       have HB1 := Lib.hid (bl_trans (bl_alloc (Below.refl w.heap.size w) _) hb1)
       have HM1 := Lib.hid (Go.Tw.Below.at_old hb1 HN.out)
       obtain ⟨d0, d1, d2, d3, d4, d5, df⟩ := blk6' HM1.out
       clear hb1))
  clear h1 h2
  go_wp2
  go_loopg [23, 3] p.wt.length (fun g i s wr => ∃ (k n : Nat), k + g = p.wt.length ∧ i = .int .i64 k ∧ s = .int .i64 n ∧ n ≤ 2000 ∧ Hid (∀ f ∈ p.wt.take k, f.rs.length ≤ 1100) ∧ Below w.heap.size w wr)
  case atStart => exact ⟨0, 0, by omega, rfl, rfl, by omega, Lib.hid (fun f hf => by simp at hf), HB2.out⟩
  case round =>
    clear d0 d1 d2 d3 d4 d5 df e0 e1 e2 e3 e4 e5 ef
    obtain ⟨k, n, hk, rfl, rfl, hn, HA, hbl⟩ := hrel
    have HB := Lib.hid hbl
    by_cases hlt : k < p.wt.length
    · obtain ⟨rfl, -, hbs, hv, hok, c0, c1, c2, c3⟩ := how wr (.of_below hbl) k hlt
      have HTS := Lib.hid (List.take_succ_eq_append_getElem hlt)
      obtain ⟨va, vc, _, _, rfl, hv1, hv2, -⟩ := id hok.rs
      unfold maxLen at hv2
      have HRS := Lib.hid (show SlIs tRec (· < wr.heap.size) wr (.slice va p.wt[k].rs.length vc) p.wt[k].rs from hok.rs.keep (fun q (hq : q < w.heap.size) => Nat.lt_of_lt_of_le hq hbl.size) (SameOn.refl _ _))
      obtain ⟨x, hx⟩ : ∃ x, p.wt[k] = x := ⟨_, rfl⟩
      rw [hx] at c0 c1 c2 c3 HRS HTS hv1
      have k0 : (0 : Int) ≤ (k : Int) := by omega
      have k1 : (k : Int) < (p.wt.length : Int) := by omega
      clear hx hok how hbl
      by_cases hbig : 1100 < x.rs.length
      · have HX := heavy_big hbig
        obtain ⟨sm, hsm⟩ : ∃ z, IntKind.i64.wrap ((n : Int) + (x.rs.length : Int)) = z := ⟨_, rfl⟩
        have hcase : (2000 : Int) < sm ∨ ¬ (2000 : Int) < sm := by omega
        clear hbig
        rcases hcase with q | q
        · go_wp2
          go_ret
          exact HYES.out _ (bl_alloc HB.out _)
        · go_wp2_with (
            go_at_call 13
            refine (HHV.out x.rs _ _ (HRS.out.step (bl_alloc (Below.refl _ _) _))).mono ?_
            rintro e w4 ⟨rfl, hb4⟩
            rw [HX]
            have HB4 := Lib.hid (bl_trans (bl_alloc HB.out _) hb4)
            clear hb4)
          go_ret
          exact HYES.out _ HB4.out
      have hwr : IntKind.i64.wrap ((n : Int) + (x.rs.length : Int)) = ((n + x.rs.length : Nat) : Int) := by rw [wrap_in (by omega) (by omega)]; rfl
      obtain ⟨m, hm⟩ : ∃ m, n + x.rs.length = m := ⟨_, rfl⟩
      rw [hm] at hwr
      have HL := Lib.hid (show x.rs.length ≤ 1100 by omega)
      clear hm hbig
      by_cases q : 2000 < m
      · have q' : (2000 : Int) < (m : Int) := by omega
        clear q
        go_wp2
        go_ret
        exact HYES.out _ (bl_alloc HB.out _)
      have q' : ¬ (2000 : Int) < (m : Int) := by omega
      have q2 : m ≤ 2000 := by omega
      cases hx : heavyC x.rs
      · go_wp2_with (
          go_at_call 13
          refine (HHV.out x.rs _ _ (HRS.out.step (bl_alloc (Below.refl _ _) _))).mono ?_
          rintro e w4 ⟨rfl, hb4⟩
          rw [hx]
          have HB4 := Lib.hid (bl_trans (bl_alloc HB.out _) hb4)
          clear hb4)
        go_roundg (p.wt.length - (k + 1))
        case measure => omega
        case rel => exact ⟨k + 1, m, by omega, by go_num, by first | rfl | go_num, q2, Lib.hid (fun f hf => by
          rw [HTS.out] at hf
          rcases List.mem_append.1 hf with hf | hf
          · exact HA.out f hf
          · rw [List.mem_singleton.1 hf]; exact HL.out), HB4.out⟩
      · go_wp2_with (
          go_at_call 13
          refine (HHV.out x.rs _ _ (HRS.out.step (bl_alloc (Below.refl _ _) _))).mono ?_
          rintro e w4 ⟨rfl, hb4⟩
          rw [hx]
          have HB4 := Lib.hid (bl_trans (bl_alloc HB.out _) hb4)
          clear hb4)
        go_ret
        exact HYES.out _ HB4.out
    · obtain rfl : k = p.wt.length := by omega
      have hkd : decide ((p.wt.length : Int) < (p.wt.length : Int)) = false := by simp
      have HS := Lib.hid (HNO.out (by have := HA.out; rwa [List.take_length] at this))
      clear how hlt hbl
      go_wp2
      go_ret
      exact ⟨⟨false, rfl, fun _ => HS.out⟩, HB.out⟩
end Go.Proofs.Ythdbojbblkfhaaa
