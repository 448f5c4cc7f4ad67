/-
  Layer 14 (group): alive.
-/
import Derived.Test.YtffpnbipacgidaaGrpA
import Derived.Test.YtffpnbipacgidaaHeld
namespace Go.Proofs.Ytffpnbipacgidaa
open Go.RowKit Go.Tw Go.Tw.Ord Go.Tw.Grp Go.Sort
theorem ints_sl {w : World} {b : Nat} {A : Array Value} {t : TypeId} {l : List Int} (h : w.heap[b]? = some (.cells A t (0, 0))) (hA : A.toList = l.map (Value.int .i64)) (hl : l.length ≤ maxLen) (hok : ∀ x ∈ l, i64ok x) : SlIs tInt (· < w.heap.size) w (.slice (some ⟨b, 0, none⟩) l.length l.length) l := by
  have hb := (Array.getElem?_eq_some_iff.1 h).1
  refine ⟨_, _, b, 0, rfl, Nat.le_refl _, hl, fun h => by simp at h, fun k hk => ⟨rfl, hb, hb, [.int .i64 l[k]], fun j hj => ?_, rfl, hok _ (List.getElem_mem hk)⟩⟩
  have hj0 : j = 0 := by have : tInt.sz = 1 := rfl; omega
  subst hj0
  rw [cell_of_row _ _ _ _ _ _ h]
  have : A[k]? = (l.map (Value.int .i64))[k]? := by rw [← hA]; simp
  simp only [show tInt.sz = 1 from rfl, Nat.mul_one, Nat.zero_add, Nat.add_zero]
  rw [this]
  simp [hk]
theorem times_lit {p : ByteArray} {l : List Int} {M : List Seen} {k : Nat} {b : Nat} {A : Array Value} {t : TypeId} {w : World} (hp : p.size ≤ maxLen) (h : w.heap[b]? = some (.cells A t (0, 0))) (hA : A.toList = l.map (Value.int .i64)) (hl : l.length = k) (hk : k ≤ 1000) (hok : ∀ x ∈ l, i64ok x) (hM : l.map (atC p) = M) :
    Calls Try.prog 32 #[.string p, .slice (some ⟨b, 0, none⟩) k k] w fun e w' => (∃ a c, e = .returned (.slice a k c) ∧ OwnSl tSeen 31 w.heap.size w' (.slice a k c) M) ∧ Below w.heap.size w w' := by
  subst hl
  refine (times_any p l _ w (ints_sl h hA (by unfold maxLen; omega) hok) hp hk).mono ?_
  rintro e w' ⟨⟨v, rfl, ho⟩, hb⟩
  obtain ⟨a, c, hv, -⟩ := ho.form
  rw [List.length_map] at hv
  subst hv
  rw [hM] at ho
  exact ⟨⟨a, c, rfl, ho⟩, hb⟩
theorem frames_lit {M : List Seen} {R : List (List Seen)} {g : Int} {k : Nat} {v : Value} {w : World} (h : SlIs tSeen (· < w.heap.size) w v M) (hl : M.length < 60) (hg : i64ok g) (hR : framesC g M = R) (hk : R.length = k) :
    Calls Try.prog 11 #[v, .int .i64 g] w fun e w' => (∃ a c, e = .returned (.slice a k c) ∧ NewL tFrm 22 w.heap.size w' (.slice a k c) R) ∧ Below w.heap.size w w' := by
  refine (Frames_any M g v w h hl hg).mono ?_
  rintro e w' ⟨⟨v', rfl, hn⟩, hb⟩
  rw [hR] at hn
  obtain ⟨a, c, hv, -⟩ := hn.form
  rw [hk] at hv
  subst hv
  exact ⟨⟨a, c, rfl, hn⟩, hb⟩
/-- an element of a slice of frames -/
theorem frm_at {w : World} {a : Option Addr} {k c : Nat} {R : List (List Seen)} (h : SlIs tFrm (· < w.heap.size) w (.slice a k c) R) {i n : Nat} {f : List Seen} (hf : R[i]? = some f) (hn : f.length = n) : ∃ b o ha hc, a = some ⟨b, o, none⟩ ∧ ∀ w', Below w.heap.size w w' → w'.cell? ⟨b, o + i, none⟩ = some (.slice ha n hc) ∧ SlIs tSeen (· < w'.heap.size) w' (.slice ha n hc) f := by
  obtain ⟨ao, cp, b, o, hv, q1, q2, ho⟩ := frm_row h
  injection hv with e1 e2 e3
  subst e1
  obtain ⟨hi, rfl⟩ := List.getElem?_eq_some_iff.1 hf
  obtain ⟨rfl, -, hb, hv, hc, hs⟩ := ho w (SameOn.refl _ _) i hi
  obtain ⟨a1, c1, _, _, rfl, -, -, -⟩ := id hs
  rw [hn] at hc hs
  exact ⟨b, o, a1, c1, rfl, fun w' hw => ⟨(hw.cell (p := ⟨b, o + i, none⟩) hb).trans hc, SlIs.step hs hw⟩⟩
theorem bp_len : bp.size ≤ maxLen := by decide
theorem bq_len : bq.size ≤ maxLen := by decide
theorem same_self {l : List Seen} {v1 v2 : Value} {w : World} (h1 : SlIs tSeen (· < w.heap.size) w v1 l) (h2 : SlIs tSeen (· < w.heap.size) w v2 l) :
    Calls Try.prog 21 #[v1, v2] w fun e w' => e = .returned (.bool true) ∧ GrB w w' := (same_any l l v1 v2 w h1 h2).mono fun _ _ h => ⟨by rw [h.1]; simp, h.2⟩
theorem span_lit {l : List Seen} {v : Value} {w : World} {p : Int × Int} (h : SlIs tSeen (· < w.heap.size) w v l) (hp : spanC l = p) :
    Calls Try.prog 24 #[v] w fun e w' => e = .returned (.agg #[.int .i64 p.1, .int .i64 p.2]) ∧ Below w.heap.size w w' := by
  subst hp
  exact span_any l v w h
theorem insert_lit {l : List (List Seen)} {s : Seen} {g : Int} {v : Value} {w : World} {A : Array Value} {R : List (List Seen)} {k : Nat} {i : Int} (h : SlIs tFrm (· < w.heap.size) w v l) (hs : SeenOk s) (hA : (sCells s).toArray = A) (hl : l.flatten.length < 59) (hg : i64ok g) (hR : framesC g (l.flatten ++ [s]) = R) (hk : R.length = k) (hi : idxF R s = i) :
    Calls Try.prog 15 #[v, .agg A, .int .i64 g] w fun e w' => (∃ a c, e = .returned (.tuple #[.slice a k c, .int .i64 i]) ∧ NewL tFrm 22 w.heap.size w' (.slice a k c) R) ∧ Below w.heap.size w w' := by
  subst hA
  refine (insert_any l s g v w h hs hl hg).mono ?_
  rintro e w' ⟨⟨v', rfl, hn⟩, hb⟩
  rw [hR] at hn ⊢
  rw [hi]
  obtain ⟨a, c, hv, -⟩ := hn.form
  rw [hk] at hv
  subst hv
  exact ⟨⟨a, c, rfl, hn⟩, hb⟩
theorem wpList_binA {P : Program} {ops : Array Oper} {rest : List Oper} {o : Oper} {a : Act} {w : World} {Q : Exit → Act → World → Prop} {op : BinOp} {t t2 : TypeId} {x y : Operand} {xs ys : Array Value} {r : Value} (hgd : o.guard = none) (ho : o.op = .binOp op t x y t2) (hg : P.eqGuardType P.depth t = false) (hx : a.eval x = .agg xs) (hy : a.eval y = .agg ys)
    (hr : ∀ w, (binOp op t (.agg xs) (.agg ys)).run P w = .ok r w) (h : wpList P ops Q rest (a.put o.dst r) w) : wpList P ops Q (o :: rest) a w :=
  wpList_plain hgd fun _ hK => by
    have e1 : (execOp a.eval o).run P w = .ok (.value r) w := by
      unfold execOp
      simp only [ho, hx, hy, Sem.run_bind, run_eqGuard_agg _ _ _ _ _ _ _ hg, Result.andThen_ok, hr, Sem.run_pure]
    unfold Oper.wp
    rw [e1]
    exact hK _ _ h
theorem run_iv (w : World) : (binOp .eql 46 (.agg #[.int .i64 11, .int .i64 15]) (.agg #[.int .i64 11, .int .i64 15])).run Try.prog w = .ok (.bool true) w := by
  have u3 := Try.underlying3
  have a3 := Try.isAgg3
  have z3 := Try.sizeOf3
  rw [run_eql_struct, show (10000 : Nat) = 9999 + 1 from rfl, run_equalIn_agg w 9999 46 _ _ (by kernel_rfl) (by kernel_rfl)]
  simp only [Program.fieldsOf, Try.underlying46]
  go_simp
set_option maxRecDepth 100000 in
set_option maxHeartbeats 8000000 in
theorem alive_any (w : World) :
    Calls Try.prog 13 #[] w fun e w' => e = .returned (.bool true) ∧ Below w.heap.size w w' := by
  have HT1 := Lib.hid (fun (b : Nat) (w : World) (h : w.heap[b]? = some (.cells #[.int .i64 11, .int .i64 0, .int .i64 14, .int .i64 5] 3 (0, 0))) => times_lit (p := bp) (l := [11, 0, 14, 5]) (k := 4) bp_len h rfl rfl (by decide) (by unfold i64ok; decide) rfl)
  obtain ⟨M1, hM1⟩ : ∃ M, [11, 0, 14, 5].map (atC bp) = M := ⟨_, rfl⟩
  obtain ⟨R1, hR1⟩ : ∃ R, R = [[atC bp 0, atC bp 5], [atC bp 11, atC bp 14]] := ⟨_, rfl⟩
  have HF1 := Lib.hid (fun (v : Value) (w : World) (h : SlIs tSeen (· < w.heap.size) w v M1) => frames_lit (k := 2) h (by rw [← hM1]; decide) (by unfold i64ok; decide) (show framesC 5 M1 = R1 by rw [hR1, ← hM1]; exact ex1) (by rw [hR1]; rfl))
  rw [hM1] at HT1
  have HT2 := Lib.hid (fun (b : Nat) (w : World) (h : w.heap[b]? = some (.cells #[.int .i64 0, .int .i64 5] 3 (0, 0))) => times_lit (p := bp) (l := [0, 5]) (k := 2) (M := [atC bp 0, atC bp 5]) bp_len h rfl rfl (by decide) (by unfold i64ok; decide) rfl)
  have HT3 := Lib.hid (fun (b : Nat) (w : World) (h : w.heap[b]? = some (.cells #[.int .i64 11, .int .i64 14] 3 (0, 0))) => times_lit (p := bp) (l := [11, 14]) (k := 2) (M := [atC bp 11, atC bp 14]) bp_len h rfl rfl (by decide) (by unfold i64ok; decide) rfl)
  have HF2 := Lib.hid (fun (v : Value) (w : World) (h : SlIs tSeen (· < w.heap.size) w v M1) => frames_lit (R := [[atC bp 0, atC bp 5, atC bp 11, atC bp 14]]) (g := 6) (k := 1) h (by rw [← hM1]; decide) (by unfold i64ok; decide) (by rw [← hM1]; exact ex2) rfl)
  have HF3 := Lib.hid (fun (v : Value) (w : World) (h : SlIs tSeen (· < w.heap.size) w v ([atC bp 3] ++ [atC bq 3])) => frames_lit (R := [[atC bp 3], [atC bq 3]]) (g := 9) (k := 2) h (by decide) (by unfold i64ok; decide) ex3 rfl)
  have HT4 := Lib.hid (fun (b : Nat) (w : World) (h : w.heap[b]? = some (.cells #[.int .i64 3] 3 (0, 0))) => times_lit (p := bp) (l := [3]) (k := 1) (M := [atC bp 3]) bp_len h rfl rfl (by decide) (by unfold i64ok; decide) rfl)
  have HT5 := Lib.hid (fun (b : Nat) (w : World) (h : w.heap[b]? = some (.cells #[.int .i64 3] 3 (0, 0))) => times_lit (p := bq) (l := [3]) (k := 1) (M := [atC bq 3]) bq_len h rfl rfl (by decide) (by unfold i64ok; decide) rfl)
  obtain ⟨A8, hA8⟩ : ∃ A, (sCells (atC bp 8)).toArray = A := ⟨_, rfl⟩
  have HAT := Lib.hid (fun (w : World) => at_any bp 8 w)
  rw [hA8] at HAT
  have HIN := Lib.hid (fun (v : Value) (w : World) (h : SlIs tFrm (· < w.heap.size) w v R1) => insert_lit (g := 5) (k := 1) (i := 0) (R := [[atC bp 0, atC bp 5, atC bp 8, atC bp 11, atC bp 14]]) h (atC_ok bp_len (by unfold i64ok; decide)) hA8 (by rw [hR1]; decide) (by unfold i64ok; decide) (by rw [hR1]; exact ex4) rfl ex5)
  clear hA8
  have HM1 := Lib.hid hM1
  have HR1 := Lib.hid hR1
  have ebp : (⟨#[112]⟩ : ByteArray) = bp := rfl
  have ebq : (⟨#[113]⟩ : ByteArray) = bq := rfl
  clear hM1 hR1
  go_enter Try.func13, Try.ntmps13
  simp only [ebp, ebq]
  go_upto_region 3 with (first
    | (go_at_call 32
       refine (HT1.out _ _ (heap_alloc_new _ _)).mono ?_
       rintro e w1 ⟨⟨a1, c1, rfl, ho1⟩, hb1⟩
       have HB1 := Lib.hid (bl_trans (bl_alloc (Below.refl _ w) _) hb1)
       have HO1 := Lib.hid ho1
       clear ho1 hb1)
    | (go_at_call 11
       refine (HF1.out _ _ HO1.out.sl).mono ?_
       rintro e w2 ⟨⟨a2, c2, rfl, hn2⟩, hb2⟩
       have HB2 := Lib.hid (bl_trans HB1.out hb2)
       have HO2 := Lib.hid (HO1.out.below hb2)
       have HN2 := Lib.hid hn2
       clear hn2 hb2))
  obtain ⟨b, o, ha, hca, rfl, hx0⟩ := frm_at HN2.out.sl' (i := 0) (f := [atC bp 0, atC bp 5]) (n := 2) (by rw [HR1.out]; rfl) rfl
  obtain ⟨b', o', ha1, hca1, hbo, hx1⟩ := frm_at HN2.out.sl' (i := 1) (f := [atC bp 11, atC bp 14]) (n := 2) (by rw [HR1.out]; rfl) rfl
  injection hbo with hbo
  injection hbo with e1 e2
  subst e1
  subst e2
  have HX0 := Lib.hid hx0
  have HX1 := Lib.hid hx1
  have HC0 := Lib.hid (show ∀ w', Below w2.heap.size w2 w' → w'.cell? ⟨b, o, none⟩ = some (.slice ha 2 hca) from fun w' hw => (hx0 w' hw).1)
  have HC1 := Lib.hid (show ∀ w', Below w2.heap.size w2 w' → w'.cell? ⟨b, o + 1, none⟩ = some (.slice ha1 2 hca1) from fun w' hw => (hx1 w' hw).1)
  clear hx0 hx1
  refine wp_region_E 20 (fun w' => Below w2.heap.size w2 w') (by kernel_rfl) ((by (repeat (first | (with_reducible exact Below.refl _ _) | (with_reducible exact HW.out) | (with_reducible apply bl_drewN) | (with_reducible apply bl_alloc) | (with_reducible apply Below.drew))); done)) (fun hHeld => ?_)
  refine wpE_take (i := 0) (v := ?_) rfl (by kernel_rfl) (fun _ _ _ h => h) (Or.inl ⟨by kernel_rfl, ?_⟩) (by assumption) ?_
  rotate_left
  focus (intro w9 hS9; (try dsimp only at hS9); go_simp; (try with_reducible rfl))
  (try simp only [Act.put])
  (try simp only [List.setIfInBounds_toArray])
  (repeat (first | simp only [List.set_cons_succ] | simp only [List.set_cons_zero]))
  refine wpE_take (i := 1) (v := ?_) rfl (by kernel_rfl) (fun _ _ _ h => h) (Or.inl ⟨by kernel_rfl, ?_⟩) (by assumption) ?_
  rotate_left
  focus (intro w9 hS9; (try dsimp only at hS9); go_simp; (try with_reducible rfl))
  (try simp only [Act.put])
  (try simp only [List.setIfInBounds_toArray])
  (repeat (first | simp only [List.set_cons_succ] | simp only [List.set_cons_zero]))
  refine wpE_take (i := 2) (v := ?_) rfl (by kernel_rfl) (fun _ _ _ h => h) (Or.inl ⟨by kernel_rfl, ?_⟩) (by assumption) ?_
  rotate_left
  focus (intro w9 hS9; (try dsimp only at hS9); go_simp; (try with_reducible rfl))
  (try simp only [Act.put])
  (try simp only [List.setIfInBounds_toArray])
  (repeat (first | simp only [List.set_cons_succ] | simp only [List.set_cons_zero]))
  refine wpE_take (i := 3) (v := ?_) rfl (by kernel_rfl) (fun _ _ _ h => h) (Or.inl ⟨by kernel_rfl, ?_⟩) (by assumption) ?_
  rotate_left
  focus (intro w9 hS9; (try dsimp only at hS9); go_simp; (try with_reducible rfl))
  (try simp only [Act.put])
  (try simp only [List.setIfInBounds_toArray])
  (repeat (first | simp only [List.set_cons_succ] | simp only [List.set_cons_zero]))
  refine wpE_take (i := 4) (v := ?_) rfl (by kernel_rfl) (fun _ _ _ h => h) (Or.inl ⟨by kernel_rfl, ?_⟩) (by assumption) ?_
  rotate_left
  focus (intro w9 hS9; (try dsimp only at hS9); go_simp; (try with_reducible rfl))
  (try simp only [Act.put])
  (try simp only [List.setIfInBounds_toArray])
  (repeat (first | simp only [List.set_cons_succ] | simp only [List.set_cons_zero]))
  refine wpE_take (i := 5) (v := ?_) rfl (by kernel_rfl) (fun _ _ _ h => h) (Or.inl ⟨by kernel_rfl, ?_⟩) (by assumption) ?_
  rotate_left
  focus (intro w9 hS9; (try dsimp only at hS9); go_simp; (try with_reducible rfl))
  (try simp only [Act.put])
  (try simp only [List.setIfInBounds_toArray])
  (repeat (first | simp only [List.set_cons_succ] | simp only [List.set_cons_zero]))
  refine wpE_take (i := 6) (v := ?_) rfl (by kernel_rfl) (fun _ _ _ h => h) (Or.inl ⟨by kernel_rfl, ?_⟩) (by assumption) ?_
  rotate_left
  focus (intro w9 hS9; have z0 := HC0.out w9 hS9; clear hS9; go_simp; (try with_reducible rfl))
  (try simp only [Act.put])
  (try simp only [List.setIfInBounds_toArray])
  (repeat (first | simp only [List.set_cons_succ] | simp only [List.set_cons_zero]))
  refine wpE_ready (rs := [7]) (by kernel_rfl) (by kernel_rfl) ?_
  refine AllReadyE.cons rfl (fun K hK => ?_) AllReadyE.nil
  rw [if_pos (show _ = true by kernel_rfl)]
  go_simp
  clear hHeld
  refine hK.out _ _ ((by (repeat (first | (with_reducible exact Below.refl _ _) | (with_reducible exact HW.out) | (with_reducible apply bl_drewN) | (with_reducible apply bl_alloc) | (with_reducible apply Below.drew))); done)) (fun hHeld => ?_)
  clear hK K
  refine wpE_ready (rs := [8]) (by kernel_rfl) (by kernel_rfl) ?_
  refine AllReadyE.cons rfl (fun K hK => ?_) AllReadyE.nil
  rw [if_pos (show _ = true by kernel_rfl)]
  go_simp
  go_wp2_with (go_at_call 32
               refine (HT2.out _ _ (by exact heap_alloc_new w2 _)).mono ?_
               rintro e w3 ⟨⟨a3, c3, rfl, ho3⟩, hb3⟩
               have HW := Lib.hid (show Below w2.heap.size w2 w3 from by (refine bl_trans ?_ hb3; exact (by (repeat (first | (with_reducible exact Below.refl _ _) | (with_reducible exact HW.out) | (with_reducible apply bl_drewN) | (with_reducible apply bl_alloc) | (with_reducible apply Below.drew))); done)))
               have HO3 := Lib.hid ho3
               clear ho3 hb3)
  clear hHeld
  refine hK.out _ _ (HW.out) (fun hHeld => ?_)
  clear hK K
  refine wpE_ready (rs := [9]) (by kernel_rfl) (by kernel_rfl) ?_
  refine AllReadyE.cons rfl (fun K hK => ?_) AllReadyE.nil
  rw [if_pos (show _ = true by kernel_rfl)]
  go_simp
  go_wp2_with (go_at_call 21
               refine (same_self (HX0.out w3 HW.out).2 HO3.out.sl).mono ?_
               rintro e w4 ⟨rfl, hg4⟩
               have HP := Lib.hid (bl_trans HW.out hg4.below)
               clear hg4 HW
               have HW := HP
               clear HP)
  clear hHeld
  refine hK.out _ _ (HW.out) (fun hHeld => ?_)
  clear hK K
  refine wpE_take (i := 10) (v := ?_) rfl (by kernel_rfl) (fun _ _ _ h => h) (Or.inl ⟨by kernel_rfl, ?_⟩) (by assumption) ?_
  rotate_left
  focus (intro w9 hS9; (try dsimp only at hS9); go_simp; (try with_reducible rfl))
  (try simp only [Act.put])
  (try simp only [List.setIfInBounds_toArray])
  (repeat (first | simp only [List.set_cons_succ] | simp only [List.set_cons_zero]))
  refine wpE_take (i := 11) (v := ?_) rfl (by kernel_rfl) (fun _ _ _ h => h) (Or.inl ⟨by kernel_rfl, ?_⟩) (by assumption) ?_
  rotate_left
  focus (intro w9 hS9; (try dsimp only at hS9); go_simp; (try with_reducible rfl))
  (try simp only [Act.put])
  (try simp only [List.setIfInBounds_toArray])
  (repeat (first | simp only [List.set_cons_succ] | simp only [List.set_cons_zero]))
  refine wpE_take (i := 12) (v := ?_) rfl (by kernel_rfl) (fun _ _ _ h => h) (Or.inl ⟨by kernel_rfl, ?_⟩) (by assumption) ?_
  rotate_left
  focus (intro w9 hS9; (try dsimp only at hS9); go_simp; (try with_reducible rfl))
  (try simp only [Act.put])
  (try simp only [List.setIfInBounds_toArray])
  (repeat (first | simp only [List.set_cons_succ] | simp only [List.set_cons_zero]))
  refine wpE_take (i := 13) (v := ?_) rfl (by kernel_rfl) (fun _ _ _ h => h) (Or.inl ⟨by kernel_rfl, ?_⟩) (by assumption) ?_
  rotate_left
  focus (intro w9 hS9; (try dsimp only at hS9); go_simp; (try with_reducible rfl))
  (try simp only [Act.put])
  (try simp only [List.setIfInBounds_toArray])
  (repeat (first | simp only [List.set_cons_succ] | simp only [List.set_cons_zero]))
  refine wpE_take (i := 14) (v := ?_) rfl (by kernel_rfl) (fun _ _ _ h => h) (Or.inl ⟨by kernel_rfl, ?_⟩) (by assumption) ?_
  rotate_left
  focus (intro w9 hS9; (try dsimp only at hS9); go_simp; (try with_reducible rfl))
  (try simp only [Act.put])
  (try simp only [List.setIfInBounds_toArray])
  (repeat (first | simp only [List.set_cons_succ] | simp only [List.set_cons_zero]))
  refine wpE_take (i := 15) (v := ?_) rfl (by kernel_rfl) (fun _ _ _ h => h) (Or.inl ⟨by kernel_rfl, ?_⟩) (by assumption) ?_
  rotate_left
  focus (intro w9 hS9; have z0 := HC1.out w9 hS9; clear hS9; go_simp; (try with_reducible rfl))
  (try simp only [Act.put])
  (try simp only [List.setIfInBounds_toArray])
  (repeat (first | simp only [List.set_cons_succ] | simp only [List.set_cons_zero]))
  refine wpE_ready (rs := [16]) (by kernel_rfl) (by kernel_rfl) ?_
  refine AllReadyE.cons rfl (fun K hK => ?_) AllReadyE.nil
  rw [if_pos (show _ = true by kernel_rfl)]
  go_simp
  clear hHeld
  refine hK.out _ _ ((by (repeat (first | (with_reducible exact Below.refl _ _) | (with_reducible exact HW.out) | (with_reducible apply bl_drewN) | (with_reducible apply bl_alloc) | (with_reducible apply Below.drew))); done)) (fun hHeld => ?_)
  clear hK K
  refine wpE_ready (rs := [17]) (by kernel_rfl) (by kernel_rfl) ?_
  refine AllReadyE.cons rfl (fun K hK => ?_) AllReadyE.nil
  rw [if_pos (show _ = true by kernel_rfl)]
  go_simp
  go_wp2_with (go_at_call 32
               refine (HT3.out _ _ (by exact heap_alloc_new w4 _)).mono ?_
               rintro e w5 ⟨⟨a5, c5, rfl, ho5⟩, hb5⟩
               have HP := Lib.hid (show Below w2.heap.size w2 w5 from by (refine bl_trans ?_ hb5; exact (by (repeat (first | (with_reducible exact Below.refl _ _) | (with_reducible exact HW.out) | (with_reducible apply bl_drewN) | (with_reducible apply bl_alloc) | (with_reducible apply Below.drew))); done)))
               have HO5 := Lib.hid ho5
               clear ho5 hb5 HW
               have HW := HP
               clear HP)
  clear hHeld
  refine hK.out _ _ (HW.out) (fun hHeld => ?_)
  clear hK K
  refine wpE_ready (rs := [18]) (by kernel_rfl) (by kernel_rfl) ?_
  refine AllReadyE.cons rfl (fun K hK => ?_) AllReadyE.nil
  rw [if_pos (show _ = true by kernel_rfl)]
  go_simp
  go_wp2_with (go_at_call 21
               refine (same_self (HX1.out w5 HW.out).2 HO5.out.sl).mono ?_
               rintro e w6 ⟨rfl, hg6⟩
               have HP := Lib.hid (bl_trans HW.out hg6.below)
               clear hg6 HW
               have HW := HP
               clear HP)
  clear hHeld
  refine hK.out _ _ (HW.out) (fun hHeld => ?_)
  clear hK K
  refine wpE_take (i := 19) (v := ?_) rfl (by kernel_rfl) (fun _ _ _ h => h) (Or.inl ⟨by kernel_rfl, ?_⟩) (by assumption) ?_
  rotate_left
  focus (intro w9 hS9; (try dsimp only at hS9); go_simp; (try with_reducible rfl))
  (try simp only [Act.put])
  (try simp only [List.setIfInBounds_toArray])
  (repeat (first | simp only [List.set_cons_succ] | simp only [List.set_cons_zero]))
  clear hHeld
  refine wpE_out (by kernel_rfl) ?_
  refine wpAny_ready (rs := [20]) (by kernel_rfl) (by simp) ?_
  refine AllReady.cons rfl (fun K hK => ?_) AllReady.nil
  rw [if_pos (show _ = true by kernel_rfl)]
  go_simp
  refine hK _ _ ?_
  clear hK K
  refine wpAny_done (by kernel_rfl) ?_ _
  clear HC0 HC1 HO3 HO5
  have HOM := Lib.hid (HO2.out.below HW.out)
  have HN6 := Lib.hid (HN2.out.below HW.out)
  have HB6 := Lib.hid (bl_trans HB2.out HW.out)
  clear HW HX0 HX1 HO1 HO2 HN2 HB1 HB2 HT1 HT2 HT3 HF1
  have HBY := Lib.hid (show ([atC bp 3].length + [atC bq 3].length) * 120 ≤ 140737488355328 ∧ [atC bp 3].length + [atC bq 3].length ≤ maxLen from by unfold maxLen; decide)
  go_upto_region 7 with (first
    | (go_at_call 11
       refine (HF2.out _ _ HOM.out.sl).mono ?_
       rintro e w7 ⟨⟨a7, c7, rfl, hn7⟩, hb7⟩
       have HB7 := Lib.hid (bl_trans HB6.out hb7)
       have HN7 := Lib.hid (HN6.out.below hb7)
       clear hn7 hb7 HOM HN6 HF2)
    | (go_at_call 32
       refine (HT4.out _ _ (by exact heap_alloc_new w7 _)).mono ?_
       rintro e w8 ⟨⟨a8, c8, rfl, ho8⟩, hb8⟩
       have HB8 := Lib.hid (bl_trans (bl_alloc (Below.refl _ w7) _) hb8)
       have HO8 := Lib.hid ho8
       clear ho8 hb8 HT4)
    | (go_at_call 32
       refine (HT5.out _ _ (by exact heap_alloc_new w8 _)).mono ?_
       rintro e w9 ⟨⟨a9, c9, rfl, ho9⟩, hb9⟩
       have HB89 := Lib.hid (bl_trans (bl_alloc (Below.refl _ w8) _) hb9)
       have HO9 := Lib.hid (HO8.out.below (bl_trans (bl_alloc (Below.refl _ w8) _) hb9))
       have HLT := Lib.hid (HO8.out.own_lt)
       have HO10 := Lib.hid (ho9.fresh seenFlat)
       have HS9 := Lib.hid (show w8.heap.size < w9.heap.size from Nat.lt_of_lt_of_le (by simp) hb9.size)
       have HDJ := Lib.hid (show ∀ k, (w8.alloc (.cells #[.int .i64 3] 3)).heap.size ≤ k ∧ k < w9.heap.size → k < w9.heap.size ∧ some k ≠ (Value.slice a8 1 c8).ownBlock from fun k hk => ⟨hk.2, fun e => by have h1 := (HLT.out k e.symm).2; have h2 := hk.1; simp at h2; omega⟩)
       have HBA := Lib.hid (show (w7.alloc (.cells #[.int .i64 3] 3)).heap.size ≤ w9.heap.size from by have := HS9.out; have := HB8.out.size; simp; omega)
       clear ho9 hb9 HT5)
    | (at_builtin
       refine wpList_step (fun K hK => ?_)
       rw [if_pos (show _ = true by kernel_rfl)]
       refine wp_append_sl (.tmp 36) (.tmp 38) 22 rfl slSeen rfl HO9.out rfl HO10.out HDJ.out HBY.out.1 HBY.out.2 HBA.out ?_
       intro v10 w10 ho10 hg10 _
       obtain ⟨a10, c10, hv10, -⟩ := ho10.form
       have hv11 : v10 = .slice a10 2 c10 := hv10
       subst hv11
       have HO11 := Lib.hid ho10
       have HB10 := Lib.hid (show Below w7.heap.size w7 w10 from (bl_trans HB8.out HB89.out).trans (Below.of_grown hg10 (bl_trans HB8.out HB89.out).size (fun k hk => by have := (HLT.out k hk).1; simp at this; omega)))
       clear ho10 hg10 HO9 HO10
       refine hK _ _ ?_
       clear hK K)
    | (go_at_call 11
       refine (HF3.out _ _ HO11.out.sl).mono ?_
       rintro e w11 ⟨⟨a11, c11, rfl, hn11⟩, hb11⟩
       have HB11 := Lib.hid (bl_trans (bl_trans HB7.out HB10.out) hb11)
       have HN11 := Lib.hid (HN7.out.below (bl_trans HB10.out hb11))
       clear hn11 hb11))
  clear HBY HF3 HB6 HB7
  go_upto_region 8 with (first
    | (go_at_call 33
       refine (HAT.out _).mono ?_
       rintro e w12 ⟨rfl, hb12⟩
       have HB12 := Lib.hid (bl_trans HB11.out hb12)
       have HN12 := Lib.hid (HN11.out.below hb12)
       clear hb12)
    | (go_at_call 15
       refine (HIN.out _ _ HN12.out.sl').mono ?_
       rintro e w13 ⟨⟨a13, c13, rfl, hn13⟩, hb13⟩
       have HB13 := Lib.hid (bl_trans HB12.out hb13)
       have HN13 := Lib.hid (HN12.out.below hb13)
       have HG13 := Lib.hid hn13
       clear hn13 hb13))
  obtain ⟨b9, o9, hv9, hc9, hab, hx1⟩ := frm_at HN13.out.sl' (i := 1) (f := [atC bp 11, atC bp 14]) (n := 2) (by rw [HR1.out]; rfl) rfl
  injection hab with hab
  injection hab with e1 e2
  subst e1
  subst e2
  obtain ⟨b5, o5, hv5, hc5, rfl, hx5⟩ := frm_at HG13.out.sl' (i := 0) (f := [atC bp 0, atC bp 5, atC bp 8, atC bp 11, atC bp 14]) (n := 5) rfl rfl
  have hc1 := (hx1 w13 (Below.refl _ _)).1
  have HS1 := Lib.hid (hx1 w13 (Below.refl _ _)).2
  have HX5 := Lib.hid (show ∀ w', Below w13.heap.size w13 w' → w'.cell? ⟨b5, o5, none⟩ = some (.slice hv5 5 hc5) from fun w' hw => (hx5 w' hw).1)
  clear hx1 hx5
  go_wp2_with (first
    | (go_at_call 24
       refine (span_lit HS1.out ex6).mono ?_
       rintro e w14 ⟨rfl, hb14⟩
       have hc5' := HX5.out _ hb14
       have HB14 := Lib.hid (bl_trans HB13.out hb14)
       clear hb14)
    | (refine wpList_binA rfl rfl Try.eqGuardType46 rfl rfl (fun w => run_iv w) ?_))
  go_ret
  exact ⟨rfl, HB14.out⟩
end Go.Proofs.Ytffpnbipacgidaa
