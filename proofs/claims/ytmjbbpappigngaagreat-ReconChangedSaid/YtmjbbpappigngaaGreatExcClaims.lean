/-
  Layer 43 (exchange): the walks of claims and Claims.
-/
import Derived.Test.YtmjbbpappigngaaGreatExcNet2
namespace Go.Tw.Exc
open Go.RowKit Go.Tw
def claimC (l : List Rec) : Int := sumZ ((netGo l).map (·.c))
def absN : List Int → Nat
  | [] => 0
  | x :: l => x.natAbs + absN l
theorem absN_append : ∀ a b : List Int, absN (a ++ b) = absN a + absN b
  | [], b => by simp [absN]
  | x :: a, b => by rw [List.cons_append, absN, absN, absN_append a b]; omega
theorem absN_perm {a b : List Int} (h : a.Perm b) : absN a = absN b := by
  induction h with
  | nil => rfl
  | cons x _ ih => rw [absN, absN, ih]
  | swap x y l => rw [absN, absN, absN, absN]; omega
  | trans _ _ i1 i2 => exact i1.trans i2
theorem absN_take (l : List Int) (k : Nat) : absN (l.take k) ≤ absN l := by
  have := absN_append (l.take k) (l.drop k)
  rw [List.take_append_drop] at this
  omega
theorem sumZ_abs (l : List Int) : (sumZ l).natAbs ≤ absN l := by
  refine snocInd (p := fun l => (sumZ l).natAbs ≤ absN l) (Nat.le_refl _) ?_ l
  intro l x ih
  rw [sumZ_snoc, absN_append, absN, absN]
  omega
theorem sumZ_perm {a b : List Int} (h : a.Perm b) : sumZ a = sumZ b := by
  unfold sumZ
  exact h.foldl_eq' (fun x _ y _ z => by omega) 0
theorem absN_set : ∀ (l : List Int) (i : Nat) (hi : i < l.length) (y : Int), absN (l.set i y) + l[i].natAbs = absN l + y.natAbs
  | x :: l, 0, _, y => by simp [absN]; omega
  | x :: l, i + 1, hi, y => by
    have := absN_set l i (by simpa using hi) y
    rw [List.set_cons_succ, absN, absN]
    simp only [List.getElem_cons_succ]
    omega
theorem after_abs (n : Int) (r : Rec) : (afterC n r).natAbs ≤ n.natAbs + r.c.natAbs := by
  unfold afterC
  split
  · omega
  · split
    · omega
    · split <;> omega
theorem net_abs (l : List Rec) : absN ((netGo l).map (·.c)) ≤ absN (l.map (·.c)) := by
  refine snocRec (p := fun l => absN ((netGo l).map (·.c)) ≤ absN (l.map (·.c))) (Nat.le_refl _) ?_ l
  intro l x ih
  rw [netGo_snoc, List.map_append, absN_append]
  cases h : idxK (netGo l) x.key with
  | none =>
    rw [netStep_none h, List.map_append, absN_append]
    have := after_abs 0 x
    show absN _ + ((afterC 0 x).natAbs + 0) ≤ _ + (x.c.natAbs + 0)
    omega
  | some i =>
    obtain ⟨hi, -⟩ := idxK_some h
    rw [netStep_some h hi, List.map_set]
    have h1 := absN_set ((netGo l).map (·.c)) i (by simpa using hi) (bump (netGo l)[i] x).c
    have h2 := after_abs (netGo l)[i].c x
    simp only [List.getElem_map] at h1
    show absN _ ≤ _ + (x.c.natAbs + 0)
    have e : (bump (netGo l)[i] x).c = afterC (netGo l)[i].c x := rfl
    rw [e] at h1
    rw [e]
    omega
theorem abs_bound : ∀ l : List Rec, (∀ r ∈ l, -1125899906842624 ≤ r.c ∧ r.c ≤ 1125899906842624) → absN (l.map (·.c)) ≤ l.length * 1125899906842624
  | [], _ => Nat.zero_le _
  | x :: l, h => by
    have := abs_bound l (fun r hr => h r (by simp [hr]))
    have hx := h x (by simp)
    rw [List.map_cons, absN, List.length_cons]
    omega
end Go.Tw.Exc
namespace Go.Proofs.YtmjbbpappigngaaGreat
open Go.RowKit Go.Tw Go.Tw.Exc
set_option maxRecDepth 100000 in
set_option maxHeartbeats 2000000 in
theorem claim_any (l : List Rec) (v : Value) (w : World) (h : SlIs tRec (· < w.heap.size) w v l) (hlen : l.length ≤ 1000) (hc : ∀ r ∈ l, -1125899906842624 ≤ r.c ∧ r.c ≤ 1125899906842624) :
    Calls Tryz.prog 62 #[v] w fun e w' => e = .returned (.int .i64 (claimC l)) ∧ Below w.heap.size w w' := by
  have HN := Lib.hid (net_any l v w h hlen hc)
  have hab : absN ((netGo l).map (·.c)) ≤ 1000 * 1125899906842624 := Nat.le_trans (net_abs l) (Nat.le_trans (abs_bound l hc) (Nat.mul_le_mul_right _ hlen))
  obtain ⟨ao, cp, bb, off, rfl, -⟩ := rec_open h
  clear h hc hlen
  have HAB := Lib.hid hab
  clear hab
  go_enter Tryz.func62, Tryz.ntmps62
  go_upto_region 1 with (fail)
  go_wp2_with (
    go_at_call 64
    refine HN.out.mono ?_
    rintro e w1 ⟨⟨v', l', rfl, hp, hs⟩, hb⟩
    obtain ⟨a1, c1, b1, o1, rfl, h1, h2, ho⟩ := rec_open hs
    have HB1 := Lib.hid hb
    have HP := Lib.hid hp
    clear hp hs hb)
  unfold maxLen at h2
  have HL := Lib.hid (show absN (l'.map (·.c)) ≤ 1000 * 1125899906842624 by rw [absN_perm (HP.out.map _)]; exact HAB.out)
  go_loopg [9, 3] l'.length (fun g i s wr => ∃ (k : Nat) (n : Int), k + g = l'.length ∧ i = .int .i64 k ∧ s = .int .i64 n ∧ Hid (n = sumZ ((l'.map (·.c)).take k)) ∧ Below w1.heap.size w1 wr)
  case atStart => exact ⟨0, 0, by omega, rfl, rfl, Lib.hid rfl, Below.refl _ _⟩
  case round =>
    obtain ⟨k, n, hk, rfl, rfl, HS, hb2⟩ := hrel
    have HB2 := Lib.hid hb2
    have hsab : n.natAbs ≤ 1000 * 1125899906842624 := by
      rw [HS.out]
      exact Nat.le_trans (sumZ_abs _) (Nat.le_trans (absN_take _ _) HL.out)
    by_cases hlt : k < l'.length
    · obtain ⟨rfl, -, hbs, hok, d0, d1, d2, d3, d4⟩ := ho wr (.of_below hb2) k hlt
      have hlm : k < (l'.map (·.c)).length := by simpa using hlt
      have hst := sumZ_take hlm
      have hsab2 : (n + l'[k].c).natAbs ≤ 1000 * 1125899906842624 := by
        have e : n + l'[k].c = sumZ ((l'.map (·.c)).take (k + 1)) := by rw [hst, HS.out]; simp
        rw [e]
        exact Nat.le_trans (sumZ_abs _) (Nat.le_trans (absN_take _ _) HL.out)
      have HST := Lib.hid (show n + l'[k].c = sumZ ((l'.map (·.c)).take (k + 1)) by rw [hst, HS.out]; simp)
      obtain ⟨x, hx⟩ : ∃ x, l'[k] = x := ⟨_, rfl⟩
      rw [hx] at d0 d1 d2 d3 d4 hsab2 HST
      have k0 : (0 : Int) ≤ (k : Int) := by omega
      have k1 : (k : Int) < (l'.length : Int) := by omega
      have hwr : IntKind.i64.wrap (n + x.c) = n + x.c := wrap_in (by omega) (by omega)
      clear hx hst hok ho hb2
      go_wp2
      go_roundg (l'.length - (k + 1))
      case measure => omega
      case rel => exact ⟨k + 1, n + x.c, by omega, by go_num, by first | rfl | go_num, Lib.hid HST.out, bl_alloc HB2.out _⟩
    · obtain rfl : k = l'.length := by omega
      have hkd : decide ((l'.length : Int) < (l'.length : Int)) = false := by simp
      have HC := Lib.hid (show n = claimC l by
        have := HS.out
        rw [List.take_of_length_le (by simp)] at this
        rw [this]
        exact sumZ_perm (HP.out.map _))
      clear ho hb2 hlt
      go_wp2
      go_ret
      exact ⟨ret_int HC.out.symm, bl_trans HB1.out HB2.out⟩
set_option maxRecDepth 100000 in
set_option maxHeartbeats 2000000 in
theorem claims_any (p : Par) (vw vo vt : Value) (w : World) (h : ParOk (· < w.heap.size) w p vw vo vt) (h1 : p.ours.length ≤ 1000) (h2 : p.thr.length ≤ 1000) (c1 : ∀ r ∈ p.ours, -1125899906842624 ≤ r.c ∧ r.c ≤ 1125899906842624) (c2 : ∀ r ∈ p.thr, -1125899906842624 ≤ r.c ∧ r.c ≤ 1125899906842624) :
    Calls Tryz.prog 41 #[.agg #[.string p.nm, .int .i64 p.out, .int .i64 p.inn, vw, vo, vt]] w fun e w' => e = .returned (.tuple #[.int .i64 (claimC p.ours), .int .i64 (claimC p.thr)]) ∧ Below w.heap.size w w' := by
  have HP := Lib.hid h
  obtain ⟨aw, cw, bw, ow, rfl, -⟩ := id h.wt
  obtain ⟨ao, co, bo, oo, rfl, -⟩ := id h.ours
  obtain ⟨at', ct, bt, ot, rfl, -⟩ := id h.thr
  have HC := Lib.hid (show (p.ours.length ≤ 1000 ∧ p.thr.length ≤ 1000) ∧ (∀ r ∈ p.ours, -1125899906842624 ≤ r.c ∧ r.c ≤ 1125899906842624) ∧ ∀ r ∈ p.thr, -1125899906842624 ≤ r.c ∧ r.c ≤ 1125899906842624 from ⟨⟨h1, h2⟩, c1, c2⟩)
  clear h h1 h2 c1 c2
  go_enter Tryz.func41, Tryz.ntmps41
  go_upto_region 1 with (fail)
  have n0 := heap_alloc_new w (.cells #[.string p.nm, .int .i64 p.out, .int .i64 p.inn, .slice aw p.wt.length cw, .slice ao p.ours.length co, .slice at' p.thr.length ct] 29)
  obtain ⟨wa, hwa⟩ : ∃ wa, w.alloc (.cells #[.string p.nm, .int .i64 p.out, .int .i64 p.inn, .slice aw p.wt.length cw, .slice ao p.ours.length co, .slice at' p.thr.length ct] 29) = wa := ⟨_, rfl⟩
  have HW := Lib.hid (show Below w.heap.size w wa by rw [← hwa]; exact bl_alloc (Below.refl _ _) _)
  rw [hwa] at n0 ⊢
  clear hwa
  obtain ⟨d0, d1, d2, d3, d4, d5, df⟩ := blk6' n0
  have hlt := lt_of_heap n0
  have HN := Lib.hid n0
  clear n0
  go_region_held3 (fun w' => w'.cell? ⟨w.heap.size, 4, none⟩ = some (.slice ao p.ours.length co) ∧ w'.cell? ⟨w.heap.size, 5, none⟩ = some (.slice at' p.thr.length ct)) (first | exact ⟨f4, f5⟩ | exact ⟨e4, e5⟩ | exact ⟨d4, d5⟩ | go_keep)
    (first
      | (go_at_call 62
         refine (claim_any p.thr _ _ (HP.out.thr.step (bl_trans HW.out HW2.out)) HC.out.1.2 HC.out.2.2).mono ?_
         rintro e w3 ⟨rfl, hb3⟩
         have HW3 := Lib.hid (bl_trans HW2.out hb3)
         obtain ⟨f0, f1, f2, f3, f4, f5, ff⟩ := blk6' ((HW3.out.block _ hlt).trans HN.out)
         clear hb3)
      | (go_at_call 62
         refine (claim_any p.ours _ _ (HP.out.ours.step (Below.drew HW.out)) HC.out.1.1 HC.out.2.1).mono ?_
         rintro e w2 ⟨rfl, hb2⟩
         have HW2 := Lib.hid (show Below wa.heap.size wa w2 from Below.trans (b := wa.drew) (Below.drew (Below.refl _ _)) hb2)
         obtain ⟨e0, e1, e2, e3, e4, e5, ef⟩ := blk6' ((HW2.out.block _ hlt).trans HN.out)
         clear hb2))
  all_goals
    go_wp2_with (fail)
    go_ret2
    exact ⟨rfl, bl_trans HW.out HW3.out⟩
end Go.Proofs.YtmjbbpappigngaaGreat
