/-
  Layer 44 (recon): the walks of the reference's Sum, Add, total, Settle, where all fits.
-/
import Derived.Test.YtmjbbpappigngaaGreatRecoSt
import Derived.Test.YtmjbbpappigngaaGreatMgI
import Derived.Test.YtmjbbpappigngaaGreatExcClmR
namespace Go.Tw.Exc
open Go.RowKit Go.Tw Go.Proofs.YtmjbbpappigngaaGreat
def StrongL (l : List Rec) : Prop := l.length ≤ 40 ∧ ∀ r ∈ l, -1099511627776 ≤ r.c ∧ r.c ≤ 1099511627776
theorem amount_abs (y : ByteArray) (l : List Rec) : (amountC l y).natAbs ≤ absN (l.map (·.c)) := by
  refine snocRec (p := fun l => (amountC l y).natAbs ≤ absN (l.map (·.c))) (Nat.le_refl _) ?_ l
  intro l x ih
  rw [amount_snoc, List.map_append, absN_append]
  have h := after_abs (amountC l y) x
  show _ ≤ _ + (x.c.natAbs + 0)
  split <;> omega
theorem strong_abs : ∀ l : List Rec, (∀ r ∈ l, -1099511627776 ≤ r.c ∧ r.c ≤ 1099511627776) → absN (l.map (·.c)) ≤ l.length * 1099511627776
  | [], _ => Nat.zero_le _
  | x :: l, h => by
    have := strong_abs l (fun r hr => h r (by simp [hr]))
    have hx := h x (by simp)
    rw [List.map_cons, absN, List.length_cons]
    omega
theorem strong_small {l : List Rec} (h : StrongL l) : absN (l.map (·.c)) ≤ 43980465111040 := by
  have h1 := strong_abs l h.2
  have h2 := h.1
  omega
theorem ints_abs : ∀ l : List Int, (∀ x ∈ l, -1125899906842624 ≤ x ∧ x ≤ 1125899906842624) → absN l ≤ l.length * 1125899906842624
  | [], _ => Nat.zero_le _
  | x :: l, h => by
    have := ints_abs l (fun r hr => h r (by simp [hr]))
    have hx := h x (by simp)
    rw [absN, List.length_cons]
    omega
theorem sum_bound {l : List Int} (hl : l.length ≤ 1024) (h : ∀ x ∈ l, -1125899906842624 ≤ x ∧ x ≤ 1125899906842624) (k : Nat) : -1152921504606846976 ≤ sumZ (l.take k) ∧ sumZ (l.take k) ≤ 1152921504606846976 := by
  have h1 := sumZ_abs (l.take k)
  have h2 := absN_take l k
  have h3 := ints_abs l h
  omega
theorem strong_amount {l : List Rec} (h : StrongL l) (y : ByteArray) : -1125899906842624 ≤ amountC l y ∧ amountC l y ≤ 1125899906842624 := by
  have h1 := amount_abs y l
  have h2 := strong_small h
  omega
theorem strong_claim {l : List Rec} (h : StrongL l) : -43980465111040 ≤ claimC l ∧ claimC l ≤ 43980465111040 := by
  have h1 := sumZ_abs ((netGo l).map (·.c))
  have h2 := net_abs l
  have h3 := strong_small h
  unfold claimC
  omega
theorem keysU_perm (la lb : List Rec) : (keysU la lb).Perm (fkeys (la ++ lb)) := by
  unfold keysU
  refine ((List.mergeSort_perm ((fkeys (la ++ lb)).map kb) leB).map ofB).trans ?_
  rw [List.map_map, show ofB ∘ kb = id from funext fun x => ofB_kb x, List.map_id]
theorem sum_keys (l : List Rec) : sumZ ((insAll (l ++ [])).map (amountC l)) = claimC l := by
  rw [insAll_keys, claim_wide l []]
  exact sumZ_perm ((keysU_perm l []).map _)
end Go.Tw.Exc
namespace Go.Proofs.YtmjbbpappigngaaGreat
open Go.RowKit Go.Tw Go.Tw.Exc
theorem slInt4 : SlT Tryz.prog 103 3 1 8 := SlT.of (z := .int .i64 0) Tryz.underlying103 (by kernel_rfl) rfl (by decide)
theorem flatInt4 : tInt.Flat := fun h => h
set_option maxRecDepth 100000 in
set_option maxHeartbeats 2000000 in
theorem sumR03_any (l : List Int) (v : Value) (w : World) (h : SlIs tInt (· < w.heap.size) w v l) (hl : l.length ≤ 1024) (hf : ∀ x ∈ l, -1125899906842624 ≤ x ∧ x ≤ 1125899906842624) (hs : fits (sumZ l) = true) :
    Calls Tryz.prog 63 #[v] w fun e w' => e = .returned (.tuple #[.int .i64 (sumZ l), .int .i64 0]) ∧ w = w' := by
  obtain ⟨ao, cap, b, off, rfl, h1, h2, ho⟩ := ints_open h
  unfold maxLen at h2
  have HO := Lib.hid ho
  have HF := Lib.hid hf
  have HB := Lib.hid (sum_bound hl hf)
  have HS := Lib.hid hs
  have hq1 : ¬ (1024 : Int) < (l.length : Int) := by omega
  clear h ho hf hs
  go_enter Tryz.func63, Tryz.ntmps63
  go_wp2_with (fail)
  go_loopg [4, 5] l.length (fun g s i wr => ∃ (k : Nat) (n : Int), k + g = l.length ∧ i = .int .i64 k ∧ s = .int .i64 n ∧ Hid (n = sumZ (l.take k)) ∧ w = wr)
  case atStart => exact ⟨0, 0, by omega, rfl, rfl, Lib.hid rfl, rfl⟩
  case round =>
    obtain ⟨k, n, hk, rfl, rfl, HN, rfl⟩ := hrel
    by_cases hlt : k < l.length
    · obtain ⟨rfl, hbb, d0, -⟩ := HO.out w (Below.refl _ _) k hlt
      have hx1 := HF.out _ (List.getElem_mem hlt)
      have hn1 := HB.out k
      have hn2 := HB.out (k + 1)
      have hst := sumZ_take hlt
      rw [← HN.out] at hn1
      rw [hst, ← HN.out] at hn2
      rw [← HN.out] at hst
      have HST := Lib.hid hst
      obtain ⟨x, hx⟩ : ∃ x, l[k] = x := ⟨_, rfl⟩
      rw [hx] at d0 hx1 hn2 HST
      have k0 : (0 : Int) ≤ (k : Int) := by omega
      have k1 : (k : Int) < (l.length : Int) := by omega
      have hw1 : IntKind.i64.wrap (n + x) = n + x := wrap_in (by omega) (by omega)
      have HFT := Lib.hid (show ∀ W', Calls Tryz.prog 61 #[.int .i64 x] W' fun e w' => e = .returned (.bool true) ∧ W' = w' from fun W' => by rw [← fits_yes hx1.1 hx1.2]; exact fitsR_any x W')
      clear hx hst
      go_wp2_with (fail)
      refine (HFT.out _).mono ?_
      rintro e w1 ⟨rfl, rfl⟩
      go_wp2_with (fail)
      go_roundg (l.length - (k + 1))
      case measure => omega
      case rel => exact ⟨k + 1, n + x, by omega, by go_num, rfl, Lib.hid HST.out.symm, rfl⟩
    · obtain rfl : k = l.length := by omega
      have hkd : decide ((l.length : Int) < (l.length : Int)) = false := by simp
      have hn : n = sumZ l := by rw [HN.out, List.take_length]
      have HN2 := Lib.hid hn
      have HFT := Lib.hid (show ∀ W', Calls Tryz.prog 61 #[.int .i64 n] W' fun e w' => e = .returned (.bool true) ∧ W' = w' from fun W' => by rw [← HS.out, ← hn]; exact fitsR_any n W')
      clear hn hlt hk
      go_wp2_with (fail)
      refine (HFT.out _).mono ?_
      rintro e w1 ⟨rfl, rfl⟩
      go_wp2_with (fail)
      go_ret2
      exact ⟨by rw [← HN2.out]; rfl, rfl⟩
set_option maxHeartbeats 1000000 in
theorem addR03_any (x y : Int) (w : World) (h1 : fits x = true) (h2 : fits y = true) (h3 : fits (x + y) = true) (hi : i64ok (x + y)) :
    Calls Tryz.prog 44 #[.int .i64 x, .int .i64 y] w fun e w' => e = .returned (.tuple #[.int .i64 (x + y), .int .i64 0]) ∧ w = w' := by
  have hw1 : IntKind.i64.wrap (x + y) = x + y := by unfold i64ok at hi; exact wrap_in (by omega) (by omega)
  have HF1 := Lib.hid (show ∀ W', Calls Tryz.prog 61 #[.int .i64 x] W' fun e w' => e = .returned (.bool true) ∧ W' = w' from fun W' => by rw [← h1]; exact fitsR_any x W')
  have HF2 := Lib.hid (show ∀ W', Calls Tryz.prog 61 #[.int .i64 y] W' fun e w' => e = .returned (.bool true) ∧ W' = w' from fun W' => by rw [← h2]; exact fitsR_any y W')
  have HF3 := Lib.hid (show ∀ W', Calls Tryz.prog 61 #[.int .i64 (x + y)] W' fun e w' => e = .returned (.bool true) ∧ W' = w' from fun W' => by rw [← h3]; exact fitsR_any (x + y) W')
  clear h1 h2 h3 hi
  go_enter Tryz.func44, Tryz.ntmps44
  go_wp2_with (fail)
  refine (HF1.out _).mono ?_
  rintro e w1 ⟨rfl, rfl⟩
  go_wp2_with (fail)
  refine (HF2.out _).mono ?_
  rintro e w1 ⟨rfl, rfl⟩
  go_wp2_with (fail)
  refine (HF3.out _).mono ?_
  rintro e w1 ⟨rfl, rfl⟩
  go_wp2_with (fail)
  go_ret2
  exact ⟨rfl, rfl⟩
set_option maxRecDepth 100000 in
set_option maxHeartbeats 4000000 in
theorem totalR_any (l : List Rec) (v : Value) (w : World) (h : SlIs tRec (· < w.heap.size) w v l) (hs : StrongL l) :
    Calls Tryz.prog 43 #[v] w fun e w' => e = .returned (.tuple #[.int .i64 (claimC l), .int .i64 0]) ∧ Below w.heap.size w w' := by
  obtain ⟨al, cl, _, _, rfl, h1, h2, -⟩ := id h
  unfold maxLen at h2
  have HL := Lib.hid h
  have HS := Lib.hid hs
  have hll := hs.1
  clear h hs
  go_enter Tryz.func43, Tryz.ntmps43
  go_wp2_with (fail)
  refine (amountsR_any l [] _ (.slice none 0 0) _ HL.out SlIs.nil (by omega) (by simp)).mono ?_
  rintro e w2 ⟨⟨vk, rfl, hk⟩, hb2⟩
  obtain ⟨K, hK⟩ : ∃ K, insAll (l ++ []) = K := ⟨_, rfl⟩
  have hkl : K.length ≤ 40 := by
    rw [← hK, insAll_keys, (keysU_perm l []).length_eq]
    have := fkeys_length (l ++ [])
    rw [List.length_append] at this
    simp at this ⊢
    omega
  have HSUM := Lib.hid (show sumZ (K.map (amountC l)) = claimC l from by rw [← hK]; exact sum_keys l)
  rw [hK] at hk
  obtain ⟨ak, ck, bk, ok, rfl, hk1, hk2, hk3⟩ := strs_open hk
  unfold maxLen at hk2
  have HK := Lib.hid hk3
  have HB2 := Lib.hid hb2
  clear hk hk3 hb2 hK
  have o0 : OwnSl tInt 3 w2.heap.size (w2.alloc (.cells #[] 3)) (.slice (some ⟨w2.heap.size, 0, none⟩) 0 0) [] := OwnSl.lit (css := []) rfl trivial (Nat.le_refl _) (by decide)
  have HO0 := Lib.hid o0
  clear o0
  go_wp2_with (fail)
  go_loopg [6, 5] K.length (fun g i v wr => ∃ (k : Nat) (M : List Int), k + g = K.length ∧ i = .int .i64 k ∧ Hid ((K.take k).map (amountC l) = M) ∧ M.length ≤ 40 ∧ OwnSl tInt 3 w2.heap.size wr v M ∧ Below w2.heap.size w2 wr)
  case atStart => exact ⟨0, [], by omega, rfl, Lib.hid rfl, by simp, HO0.out, bl_alloc (Below.refl _ _) _⟩
  case round =>
    clear HO0
    obtain ⟨k, M, hk, rfl, HM, hlen', hown, hb2⟩ := hrel
    have HO := Lib.hid hown
    have HBW := Lib.hid hb2
    have HB := Lib.hid (bl_trans HB2.out hb2)
    have hz := hb2.size
    obtain ⟨ao, cap, rfl, ho1, ho2⟩ := hown.form
    unfold maxLen at ho2
    clear hown hb2
    by_cases hlt : k < K.length
    · obtain ⟨rfl, -, -, d0, -⟩ := HK.out wr (.of_below HBW.out) k hlt
      have k0 : (0 : Int) ≤ (k : Int) := by omega
      have k1 : (k : Int) < (K.length : Int) := by omega
      obtain ⟨y, hy⟩ : ∃ y, K[k] = y := ⟨_, rfl⟩
      have HNX := Lib.hid (show (K.take (k + 1)).map (amountC l) = M ++ [amountC l y] from by rw [List.take_succ_eq_append_getElem hlt, List.map_append, HM.out, hy]; rfl)
      have hl2 : M.length + 1 ≤ 40 := by
        have h1 := congrArg List.length HM.out
        rw [List.length_map, List.length_take] at h1
        omega
      rw [hy] at d0
      have ham := strong_amount HS.out y
      obtain ⟨x, hx⟩ : ∃ x, amountC l y = x := ⟨_, rfl⟩
      have HX := Lib.hid hx
      rw [hx] at HNX ham
      have HX64 := Lib.hid (show i64ok x by unfold i64ok; omega)
      clear hy hx ham
      go_wp2_with (fail)
      refine (amount_any l y _ wr (HL.out.step HB.out) (by omega) (fun r hr => by have := HS.out.2 r hr; omega)).mono ?_
      rintro e w3 ⟨rfl, rfl⟩
      rw [HX.out]
      go_wp2_with (
        at_builtin
        refine wpList_append_one (.tmp 16) (.tmp 23) rfl 103 rfl slInt4 rfl HO.out rfl (S := fun _ => False) (y := x) ⟨rfl, HX64.out⟩ (fun _ h => h.elim) (by omega) (by unfold maxLen; omega) hz ?_
        intro v' w4 ho4 hg4 hb4
        have HO4 := Lib.hid ho4
        have HB4 := Lib.hid hb4
        clear ho4 hg4 hb4)
      go_roundg (K.length - (k + 1))
      case measure => omega
      case rel => exact ⟨k + 1, M ++ [x], by omega, by go_num, HNX, by simp; omega, HO4.out, HBW.out.trans HB4.out⟩
    · obtain rfl : k = K.length := by omega
      have hkd : decide ((K.length : Int) < (K.length : Int)) = false := by simp
      have HM2 := Lib.hid (show K.map (amountC l) = M from by have := HM.out; rwa [List.take_length] at this)
      have HSM := Lib.hid (show sumZ M = claimC l from by rw [← HM2.out]; exact HSUM.out)
      clear hlt hk
      go_wp2_with (fail)
      refine (sumR03_any M _ wr HO.out.sl (by omega) (fun x hx => by
        rw [← HM2.out] at hx
        obtain ⟨y, -, rfl⟩ := List.mem_map.1 hx
        exact strong_amount HS.out y) (by rw [HSM.out]; have := strong_claim HS.out; exact fits_yes (by omega) (by omega))).mono ?_
      rintro e w4 ⟨rfl, rfl⟩
      rw [HSM.out]
      go_wp2_with (fail)
      go_ret2
      exact ⟨rfl, HB.out⟩
set_option maxRecDepth 100000 in
set_option maxHeartbeats 2000000 in
theorem settleR_any (p : Par) (vw vo vt : Value) (w : World) (h : ParOk (· < w.heap.size) w p vw vo vt) (s1 : StrongL p.ours) (s2 : StrongL p.thr) :
    Calls Tryz.prog 20 #[.agg #[.string p.nm, .int .i64 p.out, .int .i64 p.inn, vw, vo, vt]] w fun e w' => e = .returned (.tuple #[.int .i64 (setC (claimC p.ours) (claimC p.thr)).1, .int .i64 (setC (claimC p.ours) (claimC p.thr)).2]) ∧ Below w.heap.size w w' := by
  have HP := Lib.hid h
  obtain ⟨x1, y1, _, _, rfl, -⟩ := id h.wt
  obtain ⟨x2, y2, _, _, rfl, -⟩ := id h.ours
  obtain ⟨x3, y3, _, _, rfl, -⟩ := id h.thr
  have HS := Lib.hid (And.intro s1 s2)
  have hb1 := strong_claim s1
  have hb2 := strong_claim s2
  have HT1 := Lib.hid (show ∀ W', Below w.heap.size w W' → Calls Tryz.prog 43 #[.slice x2 p.ours.length y2] W' fun e w' => e = .returned (.tuple #[.int .i64 (claimC p.ours), .int .i64 0]) ∧ Below W'.heap.size W' w' from fun W' hW => totalR_any p.ours _ W' (HP.out.ours.step hW) s1)
  have HT2 := Lib.hid (show ∀ W', Below w.heap.size w W' → Calls Tryz.prog 43 #[.slice x3 p.thr.length y3] W' fun e w' => e = .returned (.tuple #[.int .i64 (claimC p.thr), .int .i64 0]) ∧ Below W'.heap.size W' w' from fun W' hW => totalR_any p.thr _ W' (HP.out.thr.step hW) s2)
  obtain ⟨c1, hc1⟩ : ∃ c, claimC p.ours = c := ⟨_, rfl⟩
  obtain ⟨c2, hc2⟩ : ∃ c, claimC p.thr = c := ⟨_, rfl⟩
  rw [hc1] at hb1 HT1
  rw [hc2] at hb2 HT2
  rw [hc1, hc2]
  have g1 : IntKind.i64.wrap (-c2) = -c2 := wrap_in (by omega) (by omega)
  have HAD := Lib.hid (show ∀ W', Calls Tryz.prog 44 #[.int .i64 c1, .int .i64 (-c2)] W' fun e w' => e = .returned (.tuple #[.int .i64 (c1 + -c2), .int .i64 0]) ∧ W' = w' from fun W' => addR03_any c1 (-c2) W' (fits_yes (by omega) (by omega)) (fits_yes (by omega) (by omega)) (fits_yes (by omega) (by omega)) (by unfold i64ok; omega))
  have HE := Lib.hid (show setC c1 c2 = (c1 + -c2, 0) from by
    unfold setC
    rw [if_pos ⟨fits_yes (by omega) (by omega), fits_yes (by omega) (by omega), fits_yes (by omega) (by omega)⟩]
    rfl)
  clear h s1 s2 hc1 hc2
  go_enter Tryz.func20, Tryz.ntmps20
  go_wp2_with (fail)
  refine (HT1.out _ (bl_alloc (Below.refl _ _) _)).mono ?_
  rintro e w2 ⟨rfl, hb2⟩
  have HB := Lib.hid (bl_trans (bl_alloc (Below.refl w.heap.size w) _) hb2)
  have HX := Lib.hid (Go.Tw.Below.at_old hb2 (alloc1_0 w _))
  clear hb2
  obtain ⟨i0, i1, i2, i3, i4, i5, if'⟩ := blk6' HX.out
  go_wp2_with (fail)
  refine (HT2.out _ HB.out).mono ?_
  rintro e w3 ⟨rfl, hb3⟩
  have HB3 := Lib.hid (bl_trans HB.out hb3)
  clear hb3 i0 i1 i2 i3 i4 i5 if'
  go_wp2_with (fail)
  refine (HAD.out _).mono ?_
  rintro e w4 ⟨rfl, rfl⟩
  go_wp2_with (fail)
  go_ret2
  exact ⟨by rw [HE.out]; rfl, HB3.out⟩
end Go.Proofs.YtmjbbpappigngaaGreat
