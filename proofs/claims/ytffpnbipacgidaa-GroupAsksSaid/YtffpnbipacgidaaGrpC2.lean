/-
  Layer 13: the walk of detect.Compare.
-/
import Derived.Test.YtffpnbipacgidaaGrpC
namespace Go.Proofs.Ytffpnbipacgidaa
open Go.RowKit Go.Tw Go.Tw.Ord Go.Tw.Grp Go.Sort
set_option maxRecDepth 100000 in
set_option maxHeartbeats 4000000 in
theorem seen_cmp (x y : Seen) (w : World) : Calls Try.prog 47 #[.agg (sCells x).toArray, .agg (sCells y).toArray] w fun e w' => e = .returned (.int .i64 (seenC x y)) ∧ GrB w w' := by
  obtain ⟨A, hA⟩ : ∃ A, (sCells x).toArray = A := ⟨_, rfl⟩
  obtain ⟨B, hB⟩ : ∃ A, (sCells y).toArray = A := ⟨_, rfl⟩
  rw [hA, hB]
  have HA := Lib.hid hA
  have HB' := Lib.hid hB
  clear hA hB
  go_enter Try.func47, Try.ntmps47
  go_upto_region 1 with (fail)
  have n0 := alloc2_0 w (.cells A 31) (.cells B 31)
  have n1 := alloc2_1 w (.cells A 31) (.cells B 31)
  have hb : GrB w ((w.alloc (.cells A 31)).alloc (.cells B 31)) := ((GrB.refl w).alloc _).alloc _
  obtain ⟨wa, hwa⟩ : ∃ wa, (w.alloc (.cells A 31)).alloc (.cells B 31) = wa := ⟨_, rfl⟩
  rw [hwa] at n0 n1 hb ⊢
  clear hwa
  have HB := Lib.hid hb
  clear hb
  have a0 := fun n os => grC n0 0 (v := .string x.dev) (by rw [← HA.out]; rfl) n os
  have a1 := fun n os => grC n0 1 (v := .int .i64 x.seq) (by rw [← HA.out]; rfl) n os
  have a2 := fun n os => grC n0 2 (v := .int .i64 x.dtm) (by rw [← HA.out]; rfl) n os
  have a3 := fun n os => grC n0 3 (v := .string x.tag) (by rw [← HA.out]; rfl) n os
  have a4 := fun n os => grC n0 4 (v := .string x.plt) (by rw [← HA.out]; rfl) n os
  have a5 := fun n os => grC n0 5 (v := .int .i64 x.axl) (by rw [← HA.out]; rfl) n os
  have a6 := fun n os => grC n0 6 (v := .int .i64 x.sco) (by rw [← HA.out]; rfl) n os
  have a7 := fun n os => grC n0 7 (v := .int .i64 x.tm) (by rw [← HA.out]; rfl) n os
  have a8 := fun n os => grC n0 8 (v := .string x.pt) (by rw [← HA.out]; rfl) n os
  have a9 := fun n os => grC n0 9 (v := .int .i64 x.ln) (by rw [← HA.out]; rfl) n os
  have a10 := fun n os => grC n0 10 (v := .int .i64 x.kd) (by rw [← HA.out]; rfl) n os
  have b0 := fun n os => grC n1 0 (v := .string y.dev) (by rw [← HB'.out]; rfl) n os
  have b1 := fun n os => grC n1 1 (v := .int .i64 y.seq) (by rw [← HB'.out]; rfl) n os
  have b2 := fun n os => grC n1 2 (v := .int .i64 y.dtm) (by rw [← HB'.out]; rfl) n os
  have b3 := fun n os => grC n1 3 (v := .string y.tag) (by rw [← HB'.out]; rfl) n os
  have b4 := fun n os => grC n1 4 (v := .string y.plt) (by rw [← HB'.out]; rfl) n os
  have b5 := fun n os => grC n1 5 (v := .int .i64 y.axl) (by rw [← HB'.out]; rfl) n os
  have b6 := fun n os => grC n1 6 (v := .int .i64 y.sco) (by rw [← HB'.out]; rfl) n os
  have b7 := fun n os => grC n1 7 (v := .int .i64 y.tm) (by rw [← HB'.out]; rfl) n os
  have b8 := fun n os => grC n1 8 (v := .string y.pt) (by rw [← HB'.out]; rfl) n os
  have b9 := fun n os => grC n1 9 (v := .int .i64 y.ln) (by rw [← HB'.out]; rfl) n os
  have b10 := fun n os => grC n1 10 (v := .int .i64 y.kd) (by rw [← HB'.out]; rfl) n os
  clear n0 n1
  have hraw := fun W => raw_any x y W
  simp only [detVal] at hraw
  refine wp_region_grown_tail 25 (by kernel_rfl) (by kernel_rfl) ?_
  simp only [List.take_succ_cons, List.take_zero, List.drop_succ_cons, List.drop_zero]
  (repeat (quiet_step (first
    | (go_at_call 60; with_reducible exact Calls.grown_of (hraw _))
    | (first
         | (go_at_call 58; with_reducible exact Calls.grown_of ((Compare_int_any _ _ _).mono (fun _ _ h => ⟨h.1, gr_same h.2⟩)))
         | (go_at_call 59; with_reducible exact Calls.grown_of ((Compare_string_any _ _ _).mono (fun _ _ h => ⟨h.1, gr_same h.2⟩)))))))
  refine wpQuiet_nil ?_
  intro wq hq
  have HQ := Lib.hid (show GrB wa wq from by obtain ⟨⟨n, os⟩, rfl⟩ := hq; exact ⟨n, os, rfl⟩)
  clear hq a0 a1 a2 a3 a4 a5 a6 a7 a8 a9 a10 b0 b1 b2 b3 b4 b5 b6 b7 b8 b9 b10 hraw
  have HR := Lib.hid (show seenC x y = orL [cmpI x.tm y.tm, cmpS x.pt y.pt, cmpI x.kd y.kd, cmpI x.ln y.ln, rawC x y] from rfl)
  generalize cmpI x.tm y.tm = z0 at *
  generalize cmpS x.pt y.pt = z1 at *
  generalize cmpI x.kd y.kd = z2 at *
  generalize cmpI x.ln y.ln = z3 at *
  generalize rawC x y = z4 at *
  have HOR := Lib.hid (show ∀ (g : Nat) (w : World), Row 3 w g [z0, z1, z2, z3, z4] → Calls Try.prog 57 #[.slice (some ⟨g, 0, none⟩) 5 5] w fun e w' => e = .returned (.int .i64 (orL [z0, z1, z2, z3, z4])) ∧ w' = w from fun g w h => Or_any [z0, z1, z2, z3, z4] g w h (by simp))
  go_wp2_with (go_at_call 57; refine (HOR.out _ _ (by exact heap_alloc_new _ _)).mono ?_; rintro e w' ⟨rfl, rfl⟩)
  go_ret
  exact ⟨ret_int HR.out, (HB.out.trans HQ.out).alloc _⟩
end Go.Proofs.Ytffpnbipacgidaa
