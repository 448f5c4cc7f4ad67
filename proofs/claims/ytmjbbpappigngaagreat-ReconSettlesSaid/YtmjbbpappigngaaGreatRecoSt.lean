/-
  Layer 44 (recon): the walk of Settle; what two partners that agree owe each other.
-/
import Derived.Test.YtmjbbpappigngaaGreatMgJ
import Derived.Test.YtmjbbpappigngaaGreatMgH
namespace Go.Tw.Exc
open Go.RowKit Go.Tw Go.Proofs.YtmjbbpappigngaaGreat
noncomputable def setC (x y : Int) : Int × Int := if fits x = true ∧ fits y = true ∧ fits (x - y) = true then (x - y, 0) else (0, 13)
theorem claim_bound {l : List Rec} (h : Small44 l) : -1125899906842624000 ≤ claimC l ∧ claimC l ≤ 1125899906842624000 := by
  have h1 := sumZ_abs ((netGo l).map (·.c))
  have h2 := net_abs l
  have h3 := abs_bound l h.2
  have h4 := h.1
  unfold claimC
  have h5 : l.length * 1125899906842624 ≤ 1000 * 1125899906842624 := Nat.mul_le_mul_right _ h4
  omega
theorem fits_neg {n : Int} : fits (-n) = fits n := by
  unfold fits
  rw [Bool.eq_iff_iff]
  simp only [Bool.and_eq_true, decide_eq_true_eq]
  omega
theorem setC_turn (x y : Int) : (setC x y).2 = (setC y x).2 ∧ (setC x y).1 = -(setC y x).1 := by
  have e : fits (y - x) = fits (x - y) := by rw [← fits_neg]; congr 1; omega
  unfold setC
  rw [e]
  by_cases h1 : fits x = true <;> by_cases h2 : fits y = true <;> by_cases h3 : fits (x - y) = true <;> simp [h1, h2, h3]
  omega
theorem agree_claims {x y : Par} (h : agreeC x y = true) : claimC x.ours = claimC y.thr ∧ claimC y.ours = claimC x.thr := by
  obtain ⟨h1, h2⟩ := agree_amounts h
  exact ⟨claim_same h1, claim_same h2⟩
theorem setC_range {x y : Int} : -1125899906842624 ≤ (setC x y).1 ∧ (setC x y).1 ≤ 1125899906842624 := by
  unfold setC
  by_cases h : fits x = true ∧ fits y = true ∧ fits (x - y) = true
  · rw [if_pos h]
    have := h.2.2
    unfold fits at this
    simp at this
    exact this
  · rw [if_neg h]; decide
end Go.Tw.Exc
namespace Go.Proofs.YtmjbbpappigngaaGreat
open Go.RowKit Go.Tw Go.Tw.Exc
set_option maxRecDepth 100000 in
set_option maxHeartbeats 2000000 in
theorem settle_any (p : Par) (vw vo vt : Value) (w : World) (h : ParOk (· < w.heap.size) w p vw vo vt) (s1 : Small44 p.ours) (s2 : Small44 p.thr) :
    Calls Tryz.prog 19 #[.agg #[.string p.nm, .int .i64 p.out, .int .i64 p.inn, vw, vo, vt]] w fun e w' => e = .returned (.tuple #[.int .i64 (setC (claimC p.ours) (claimC p.thr)).1, .int .i64 (setC (claimC p.ours) (claimC p.thr)).2]) ∧ Below w.heap.size w w' := by
  have HP := Lib.hid h
  obtain ⟨x1, y1, _, _, rfl, -⟩ := id h.wt
  obtain ⟨x2, y2, _, _, rfl, -⟩ := id h.ours
  obtain ⟨x3, y3, _, _, rfl, -⟩ := id h.thr
  have HS := Lib.hid (And.intro s1 s2)
  have hb1 := claim_bound s1
  have hb2 := claim_bound s2
  obtain ⟨c1, hc1⟩ : ∃ c, claimC p.ours = c := ⟨_, rfl⟩
  obtain ⟨c2, hc2⟩ : ∃ c, claimC p.thr = c := ⟨_, rfl⟩
  rw [hc1] at hb1
  rw [hc2] at hb2
  rw [hc1, hc2]
  have HC := Lib.hid (And.intro hc1 hc2)
  have g1 : IntKind.i64.wrap (c1 - c2) = c1 - c2 := wrap_in (by omega) (by omega)
  clear h s1 s2 hc1 hc2
  go_enter Tryz.func19, Tryz.ntmps19
  go_wp2_with (fail)
  refine (claims_any p _ _ _ _ (HP.out.step (bl_alloc (Below.refl _ _) _)) HS.out.1.1 HS.out.2.1 HS.out.1.2 HS.out.2.2).mono ?_
  rintro e w2 ⟨rfl, hb2⟩
  have HB := Lib.hid (bl_trans (bl_alloc (Below.refl w.heap.size w) _) hb2)
  rw [HC.out.1, HC.out.2]
  clear hb2
  cases f1 : fits c1
  case false =>
    have HF1 := Lib.hid (show ∀ W', Calls Tryz.prog 42 #[.int .i64 c1] W' fun e w' => e = .returned (.bool false) ∧ W' = w' from fun W' => by rw [← f1]; exact fits_any c1 W')
    have HE := Lib.hid (show setC c1 c2 = (0, 13) from by unfold setC; rw [if_neg (by simp [f1])])
    clear f1
    go_wp2_with (fail)
    refine (HF1.out _).mono ?_
    rintro e w3 ⟨rfl, rfl⟩
    go_wp2_with (fail)
    go_ret2
    exact ⟨by rw [HE.out]; rfl, HB.out⟩
  have HF1 := Lib.hid (show ∀ W', Calls Tryz.prog 42 #[.int .i64 c1] W' fun e w' => e = .returned (.bool true) ∧ W' = w' from fun W' => by rw [← f1]; exact fits_any c1 W')
  cases f2 : fits c2
  case false =>
    have HF2 := Lib.hid (show ∀ W', Calls Tryz.prog 42 #[.int .i64 c2] W' fun e w' => e = .returned (.bool false) ∧ W' = w' from fun W' => by rw [← f2]; exact fits_any c2 W')
    have HE := Lib.hid (show setC c1 c2 = (0, 13) from by unfold setC; rw [if_neg (by simp [f2])])
    clear f1 f2
    go_wp2_with (fail)
    refine (HF1.out _).mono ?_
    rintro e w3 ⟨rfl, rfl⟩
    go_wp2_with (fail)
    refine (HF2.out _).mono ?_
    rintro e w3 ⟨rfl, rfl⟩
    go_wp2_with (fail)
    go_ret2
    exact ⟨by rw [HE.out]; rfl, HB.out⟩
  have HF2 := Lib.hid (show ∀ W', Calls Tryz.prog 42 #[.int .i64 c2] W' fun e w' => e = .returned (.bool true) ∧ W' = w' from fun W' => by rw [← f2]; exact fits_any c2 W')
  cases f3 : fits (c1 - c2)
  case false =>
    have HF3 := Lib.hid (show ∀ W', Calls Tryz.prog 42 #[.int .i64 (c1 - c2)] W' fun e w' => e = .returned (.bool false) ∧ W' = w' from fun W' => by rw [← f3]; exact fits_any (c1 - c2) W')
    have HE := Lib.hid (show setC c1 c2 = (0, 13) from by unfold setC; rw [if_neg (by simp [f3])])
    clear f1 f2 f3
    go_wp2_with (fail)
    refine (HF1.out _).mono ?_
    rintro e w3 ⟨rfl, rfl⟩
    go_wp2_with (fail)
    refine (HF2.out _).mono ?_
    rintro e w3 ⟨rfl, rfl⟩
    go_wp2_with (fail)
    refine (HF3.out _).mono ?_
    rintro e w3 ⟨rfl, rfl⟩
    go_wp2_with (fail)
    go_ret2
    exact ⟨by rw [HE.out]; rfl, HB.out⟩
  have HF3 := Lib.hid (show ∀ W', Calls Tryz.prog 42 #[.int .i64 (c1 - c2)] W' fun e w' => e = .returned (.bool true) ∧ W' = w' from fun W' => by rw [← f3]; exact fits_any (c1 - c2) W')
  have HE := Lib.hid (show setC c1 c2 = (c1 - c2, 0) from by unfold setC; rw [if_pos ⟨f1, f2, f3⟩])
  clear f1 f2 f3
  go_wp2_with (fail)
  refine (HF1.out _).mono ?_
  rintro e w3 ⟨rfl, rfl⟩
  go_wp2_with (fail)
  refine (HF2.out _).mono ?_
  rintro e w3 ⟨rfl, rfl⟩
  go_wp2_with (fail)
  refine (HF3.out _).mono ?_
  rintro e w3 ⟨rfl, rfl⟩
  go_wp2_with (fail)
  go_ret2
  exact ⟨by rw [HE.out]; rfl, HB.out⟩
end Go.Proofs.YtmjbbpappigngaaGreat
