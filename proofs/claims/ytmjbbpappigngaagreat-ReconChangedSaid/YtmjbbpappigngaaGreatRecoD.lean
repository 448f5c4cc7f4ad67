/-
  Layer 44 (recon): the walk of Differ.
-/
import Derived.Test.YtmjbbpappigngaaGreatRecoW
import Derived.Test.YtmjbbpappigngaaGreatIter
import Derived.Test.YtmjbbpappigngaaGreatHeld
import Derived.Test.YtmjbbpappigngaaGreatStrs
namespace Go.Proofs.YtmjbbpappigngaaGreat
open Go.RowKit Go.Tw Go.Tw.Exc Go.Maps
def KeyMap (w : World) (m n : Nat) (D : DataW Unit) : Prop := w.ownsMap Tryz.prog 9 (plainElem Tryz.prog 4) m n D
theorem invKs {key : Value} {kl : Lit} (h : keyOf Tryz.prog 9 key = some kl) : ∃ x, key = encStr x := by
  obtain ⟨x, hx, -⟩ := Maps.keyOf_str Tryz.underlying9 h
  exact ⟨x, hx⟩
theorem invVi {v : Value} {y : DataW Unit × List MemPlace} (h : plainElem Tryz.prog 3 v = some y) : ∃ c, v = Value.int .i64 c := by
  obtain ⟨c, rfl, -⟩ := plainElem_int_inv Tryz.underlying3 h
  exact ⟨c, rfl⟩
theorem box6D {wb : World} {b : Nat} {t : TypeId} {a0 a1 a2 a3 a4 a5 : Value} (h : wb.heap[b]? = some (.cells #[a0, a1, a2, a3, a4, a5] t (0, 0))) : ∀ w', Below wb.heap.size wb w' → w'.cell? ⟨b, 0, none⟩ = some a0 ∧ w'.cell? ⟨b, 1, none⟩ = some a1 ∧ w'.cell? ⟨b, 2, none⟩ = some a2 ∧ w'.cell? ⟨b, 3, none⟩ = some a3 ∧ w'.cell? ⟨b, 4, none⟩ = some a4 ∧ w'.cell? ⟨b, 5, none⟩ = some a5 := fun w' hb => by
  obtain ⟨h0, h1, h2, h3, h4, h5, -⟩ := blk6' ((hb.block b (lt_of_heap h)).trans h)
  exact ⟨h0, h1, h2, h3, h4, h5⟩
theorem own_below {H : Type} {P : Program} {k : TypeId} {R : Value → Option (DataW H × List MemPlace)} {w w' : World} {b n : Nat} {D : DataW H} (h : w.ownsMap P k R b n D) (hb : Below w.heap.size w w') : w'.ownsMap P k R b n D := by
  obtain ⟨es, clock, h1, h2⟩ := h
  exact ⟨es, clock, Go.Tw.Below.at_old hb h1, h2⟩
theorem slDif : SlT Tryz.prog 60 63 3 32 := SlT.of (z := .agg #[.string ByteArray.empty, .int .i64 0, .int .i64 0]) Tryz.underlying60 (by kernel_rfl) rfl (by decide)
theorem enc_kb (s : ByteArray) : encStr (kb s) = .string s := by
  unfold encStr kb
  simp
theorem all_strs (S : Nat → Prop) (w : World) : ∀ l : List ByteArray, (∀ s ∈ l, s.size ≤ maxLen) → AllIs tStr S w (l.map fun s => [Value.string s]) l
  | [], _ => trivial
  | s :: l, h => ⟨⟨rfl, h s (by simp)⟩, all_strs S w l (fun t ht => h t (by simp [ht]))⟩
theorem strs_own {e : TypeId} {B : Nat} {w : World} {v : Value} {l : List ByteArray} {ss : List (List UInt8)} (h : w.ownsRow B e 1 v ss.length ((ss.mergeSort leB).map encStr)) (hs : ss.mergeSort leB = l.map kb) (hl : ∀ s ∈ l, s.size ≤ maxLen) : OwnSl tStr e B w v l := by
  have hn : ss.length = l.length := by
    have := congrArg List.length hs
    rw [List.length_mergeSort, List.length_map] at this
    exact this
  rw [hs, hn, List.map_map] at h
  refine ⟨l.map fun s => [Value.string s], ?_, all_strs _ _ l hl⟩
  have e1 : (l.map fun s => [Value.string s]).flatten = l.map (encStr ∘ kb) := by
    clear h hs hl hn
    induction l with
    | nil => rfl
    | cons s l ih => simp [ih, enc_kb]
  rw [e1]
  exact h
theorem keysU_mem {la lb : List Rec} {s : ByteArray} (h : s ∈ keysU la lb) : (∃ r ∈ la, r.key = s) ∨ ∃ r ∈ lb, r.key = s := by
  unfold keysU at h
  obtain ⟨x, hx, rfl⟩ := List.mem_map.1 h
  rw [List.mem_mergeSort] at hx
  obtain ⟨t, ht, rfl⟩ := List.mem_map.1 hx
  rw [ofB_kb]
  obtain ⟨r, hr, e⟩ := (fkeys_mem _ t).1 ht
  rcases List.mem_append.1 hr with q | q
  · exact .inl ⟨r, q, e⟩
  · exact .inr ⟨r, q, e⟩
theorem fkeys_len (l : List Rec) : (fkeys l).length ≤ l.length := by
  have := (fkeys_perm l).length_eq
  rw [this, List.length_map]
  exact netGo_len l
theorem keysU_len (la lb : List Rec) : (keysU la lb).length ≤ la.length + lb.length := by
  unfold keysU
  rw [List.length_map, List.length_mergeSort, List.length_map, ← List.length_append]
  exact fkeys_len _
theorem recs_ok {S : Nat → Prop} {w : World} {v : Value} {l : List Rec} (h : SlIs tRec S w v l) : ∀ r ∈ l, RecOk r := fun r hr => by
  obtain ⟨k, hk, rfl⟩ := List.getElem_of_mem hr
  obtain ⟨_, _, _, _, _, _, _, ho⟩ := rec_open h
  exact (ho w (SameOn.refl _ _) k hk).2.2.2.1
noncomputable def difOf (la lb : List Rec) (s : ByteArray) : Option Dif := if amountC la s = amountC lb s then none else some ⟨s, amountC la s, amountC lb s⟩
theorem differ_take (la lb : List Rec) {k : Nat} (h : k < (keysU la lb).length) : ((keysU la lb).take (k + 1)).filterMap (difOf la lb) = ((keysU la lb).take k).filterMap (difOf la lb) ++ (difOf la lb (keysU la lb)[k]).toList := by
  rw [List.take_succ_eq_append_getElem h, List.filterMap_append]
  cases e : difOf la lb (keysU la lb)[k] <;> simp [e]
theorem own_low {α : Type} {T : Ty α} {e : TypeId} {B B' : Nat} {w : World} {v : Value} {l : List α} (h : OwnSl T e B w v l) (hB : B' ≤ B) : OwnSl T e B' w v l := by
  obtain ⟨css, h1, h2⟩ := h
  refine ⟨css, ⟨h1.1, ?_⟩, h2⟩
  rcases h1.2 with ⟨a, b⟩ | ⟨g, cap, cur, a, b, c⟩
  · exact .inl ⟨a, b⟩
  · exact .inr ⟨g, cap, cur, a, Nat.le_trans hB b, c⟩
def Small44 (l : List Rec) : Prop := l.length ≤ 1000 ∧ ∀ r ∈ l, -1125899906842624 ≤ r.c ∧ r.c ≤ 1125899906842624
set_option maxRecDepth 100000 in
set_option maxHeartbeats 8000000 in
theorem differ_any (a b : Par) (a1 a2 a3 b1 b2 b3 : Value) (w : World) (ha : ParOk (· < w.heap.size) w a a1 a2 a3) (hb : ParOk (· < w.heap.size) w b b1 b2 b3) (hsa : Small44 a.ours) (hsb : Small44 b.thr) :
    Calls Tryz.prog 22 #[.agg #[.string a.nm, .int .i64 a.out, .int .i64 a.inn, a1, a2, a3], .agg #[.string b.nm, .int .i64 b.out, .int .i64 b.inn, b1, b2, b3]] w
      fun e w' => (∃ v', e = .returned v' ∧ OwnSl tDif 63 w.heap.size w' v' (differC a.ours b.thr)) ∧ Below w.heap.size w w' := by
  have HA := Lib.hid ha
  have HB := Lib.hid hb
  obtain ⟨x1, y1, _, _, rfl, -⟩ := id ha.wt
  obtain ⟨x2, y2, _, _, rfl, -⟩ := id ha.ours
  obtain ⟨x3, y3, _, _, rfl, -⟩ := id ha.thr
  obtain ⟨z1, e1, _, _, rfl, -⟩ := id hb.wt
  obtain ⟨z2, e2, _, _, rfl, -⟩ := id hb.ours
  obtain ⟨z3, e3, _, _, rfl, -⟩ := id hb.thr
  have HSA := Lib.hid hsa
  have HSB := Lib.hid hsb
  clear ha hb hsa hsb
  go_enter Tryz.func22, Tryz.ntmps22
  go_upto_region 1 with (fail)
  have m0 := alloc2_0 w (.cells #[.string a.nm, .int .i64 a.out, .int .i64 a.inn, .slice x1 a.wt.length y1, .slice x2 a.ours.length y2, .slice x3 a.thr.length y3] 29) (.cells #[.string b.nm, .int .i64 b.out, .int .i64 b.inn, .slice z1 b.wt.length e1, .slice z2 b.ours.length e2, .slice z3 b.thr.length e3] 29)
  have m1 := alloc2_1 w (.cells #[.string a.nm, .int .i64 a.out, .int .i64 a.inn, .slice x1 a.wt.length y1, .slice x2 a.ours.length y2, .slice x3 a.thr.length y3] 29) (.cells #[.string b.nm, .int .i64 b.out, .int .i64 b.inn, .slice z1 b.wt.length e1, .slice z2 b.ours.length e2, .slice z3 b.thr.length e3] 29)
  obtain ⟨wb, hwb⟩ : ∃ wb, (w.alloc (.cells #[.string a.nm, .int .i64 a.out, .int .i64 a.inn, .slice x1 a.wt.length y1, .slice x2 a.ours.length y2, .slice x3 a.thr.length y3] 29)).alloc (.cells #[.string b.nm, .int .i64 b.out, .int .i64 b.inn, .slice z1 b.wt.length e1, .slice z2 b.ours.length e2, .slice z3 b.thr.length e3] 29) = wb := ⟨_, rfl⟩
  have HWB := Lib.hid (show Below w.heap.size w wb by rw [← hwb]; exact bl_alloc (bl_alloc (Below.refl _ _) _) _)
  rw [hwb] at m0 m1 ⊢
  clear hwb
  have HX0 := Lib.hid (box6D m0)
  have HX1 := Lib.hid (box6D m1)
  have HC1 := Lib.hid (show ∀ W', Below wb.heap.size wb W' → _ from fun W' hw => amounts_any a.ours (.slice x2 a.ours.length y2) W' (HA.out.ours.step (bl_trans HWB.out hw)) HSA.out.1 HSA.out.2)
  have HC2 := Lib.hid (show ∀ W', Below wb.heap.size wb W' → _ from fun W' hw => amounts_any b.thr (.slice z3 b.thr.length e3) W' (HB.out.thr.step (bl_trans HWB.out hw)) HSB.out.1 HSB.out.2)
  have HW := Lib.hid (Below.refl wb.heap.size wb)
  clear m0 m1
  refine wp_region_E 6 (fun w' => Below wb.heap.size wb w') (by kernel_rfl) ((by (repeat (first | (with_reducible exact Below.refl _ _) | (with_reducible exact HW.out) | (with_reducible apply bl_drewN) | (with_reducible apply bl_alloc) | (with_reducible apply Below.drew))); done)) (fun hHeld => ?_)
  refine wpE_take (i := 0) (v := ?_) rfl (by kernel_rfl) (fun _ _ _ h => h) (Or.inl ⟨by kernel_rfl, ?_⟩) (by assumption) ?_
  rotate_left
  focus (intro w9 hS9; (try dsimp only at hS9); go_simp; (try with_reducible rfl))
  (try simp only [Act.put])
  (try simp only [List.setIfInBounds_toArray])
  (repeat (first | simp only [List.set_cons_succ] | simp only [List.set_cons_zero]))
  refine wpE_take (i := 1) (v := ?_) rfl (by kernel_rfl) (fun _ _ _ h => h) (Or.inl ⟨by kernel_rfl, ?_⟩) (by assumption) ?_
  rotate_left
  focus (intro w9 hS9; obtain ⟨z0, z1, z2, z3, z4, z5⟩ := HX0.out w9 hS9; clear hS9; go_simp; (try with_reducible rfl))
  (try simp only [Act.put])
  (try simp only [List.setIfInBounds_toArray])
  (repeat (first | simp only [List.set_cons_succ] | simp only [List.set_cons_zero]))
  refine wpE_take (i := 3) (v := ?_) rfl (by kernel_rfl) (fun _ _ _ h => h) (Or.inl ⟨by kernel_rfl, ?_⟩) (by assumption) ?_
  rotate_left
  focus (intro w9 hS9; (try dsimp only at hS9); go_simp; (try with_reducible rfl))
  (try simp only [Act.put])
  (try simp only [List.setIfInBounds_toArray])
  (repeat (first | simp only [List.set_cons_succ] | simp only [List.set_cons_zero]))
  refine wpE_take (i := 4) (v := ?_) rfl (by kernel_rfl) (fun _ _ _ h => h) (Or.inl ⟨by kernel_rfl, ?_⟩) (by assumption) ?_
  rotate_left
  focus (intro w9 hS9; obtain ⟨z0, z1, z2, z3, z4, z5⟩ := HX1.out w9 hS9; clear hS9; go_simp; (try with_reducible rfl))
  (try simp only [Act.put])
  (try simp only [List.setIfInBounds_toArray])
  (repeat (first | simp only [List.set_cons_succ] | simp only [List.set_cons_zero]))
  refine wpE_ready (rs := [2]) (by kernel_rfl) (by kernel_rfl) ?_
  refine AllReadyE.cons rfl (fun K hK => ?_) AllReadyE.nil
  rw [if_pos (show _ = true by kernel_rfl)]
  go_simp
  go_wp2_with (
    go_at_call 45
    refine (HC1.out _ (by (repeat (first | (with_reducible exact Below.refl _ _) | (with_reducible exact HW.out) | (with_reducible apply bl_drewN) | (with_reducible apply bl_alloc) | (with_reducible apply Below.drew))); done)).mono ?_
    rintro e w2 ⟨⟨M1, D1, rfl, hm1, hd1, hM1⟩, hb1⟩
    have HP1 := Lib.hid (show Below wb.heap.size wb w2 from by (refine bl_trans ?_ hb1; exact (by (repeat (first | (with_reducible exact Below.refl _ _) | (with_reducible exact HW.out) | (with_reducible apply bl_drewN) | (with_reducible apply bl_alloc) | (with_reducible apply Below.drew))); done)))
    clear HW
    have HW := HP1
    clear HP1)
  clear hHeld
  refine hK.out _ _ (HW.out) (fun hHeld => ?_)
  clear hK K
  refine wpE_ready (rs := [5]) (by kernel_rfl) (by kernel_rfl) ?_
  refine AllReadyE.cons rfl (fun K hK => ?_) AllReadyE.nil
  rw [if_pos (show _ = true by kernel_rfl)]
  go_simp
  go_wp2_with (
    go_at_call 45
    refine (HC2.out _ HW.out).mono ?_
    rintro e w3 ⟨⟨M2, D2, rfl, hm2, hd2, hM2⟩, hb2⟩
    have HP1 := Lib.hid (show Below wb.heap.size wb w3 from bl_trans HW.out hb2)
    clear HW
    have HW := HP1
    clear HP1)
  clear hHeld
  refine hK.out _ _ (HW.out) (fun hHeld => ?_)
  clear hK K
  clear hHeld
  refine wpE_out (by kernel_rfl) ?_
  refine wpAny_ready (rs := [6]) (by kernel_rfl) (by simp) ?_
  refine AllReady.cons rfl (fun K hK => ?_) AllReady.nil
  rw [if_pos (show _ = true by kernel_rfl)]
  go_simp
  refine hK _ _ ?_
  clear hK K
  refine wpAny_ready (rs := [7]) (by kernel_rfl) (by simp) ?_
  refine AllReady.cons rfl (fun K hK => ?_) AllReady.nil
  rw [if_pos (show _ = true by kernel_rfl)]
  go_simp
  refine hK _ _ ?_
  clear hK K
  refine wpAny_done (by kernel_rfl) ?_ _
  have HM1 := Lib.hid (show AmtMap w3 M1 a.ours.length D1 from own_below hm1 hb2)
  have HM2 := Lib.hid hm2
  have hl1 := hm1.lt
  have hl2 := hm2.lt
  have hz2 := hb2.size
  have hwM1 : w.heap.size ≤ M1 := by
    have q1 := HWB.out.size
    have q2 : wb.heap.size ≤ M1 := hM1
    omega
  have hne12 : M1 ≠ M2 := by omega
  have hwM2 : w.heap.size ≤ M2 := by omega
  have HB3 := Lib.hid (bl_trans HWB.out HW.out)
  have HD1 := Lib.hid hd1
  have HD2 := Lib.hid hd2
  have e1 : (w3.alloc (.map #[] 0)).heap.size = w3.heap.size + 1 := by simp
  have hz3 : w.heap.size ≤ w3.heap.size := HB3.out.size
  have hmm := @run_makeMap Tryz.prog
  clear hm1 hm2 hb1 hb2 hM1 hM2 hd1 hd2 HX0 HX1 HC1 HC2 HW HWB
  go_wp2_with (first
    | (at_range; refine wpList_range_own _ rfl _ 84 rfl 9 3 keyedS Tryz.underlying84 _ M1 _ D1 rfl (World.ownsMap.alloc HM1.out _) ?_; intro w4 hrg0 hg0 hs0)
    | go_in)
  go_frame
  rw [e1] at hrg0 hs0 ⊢
  go_loopw [8] (fun _ wr => ∃ (left : Lit → Bool) (cnt nK : Nat) (DK : DataW Unit), wr.ranges Tryz.prog 9 (plainElem Tryz.prog 3) M1 (w3.heap.size + 1) a.ours.length D1 left cnt ∧ nK + cnt ≤ 1000 ∧ KeyMap wr w3.heap.size nK DK ∧ Hid (KeysIn DK fun s => False ∨ ((amtO a.ours s).isSome = true ∧ left (.string (kb s)) = false)) ∧ AmtMap wr M2 b.thr.length D2 ∧ Below w.heap.size w wr)
    (fun _ wr => wr.rangeLeft M1 (w3.heap.size + 1))
  case atStart =>
    refine ⟨_, _, 0, .map [], hrg0, ?_, (World.ownsMap_made _ _ _ _).kept hg0 (by simp), Lib.hid (KeysIn.nil.iff fun s => ?_), (World.ownsMap.alloc HM2.out _).kept hg0 (by simp), (bl_alloc HB3.out _).grown hg0 (by simp; omega) (fun j hj => by cases hj)⟩
    · have := own_size HM1.out
      have := HSA.out.1
      omega
    · rw [HD1.out.has s]
      cases (amtO a.ours s).isSome <;> simp
  case round =>
    obtain ⟨left, cnt, nK, DK, hrg, hcs, hK, HKI, hM, hbl⟩ := hrel
    clear hmm
    go_wp2_with (first
      | (at_next; refine wpList_next_ranges _ rfl _ rfl 9 keyedS (plainElem Tryz.prog 3) encStr (Value.int .i64) (fun _ _ h => invKs h) (fun _ _ h => invVi h) M1 (w3.heap.size + 1) a.ours.length D1 _ _ rfl hrg ?_ ?_)
      | go_in)
    · intro hc0 hl0
      have HK1 := Lib.hid (show KeysIn DK fun s => (amtO a.ours s).isSome = true from HKI.out.iff fun s => by simp [hl0])
      have hrl := hrg.lt
      have HM1r := Lib.hid (show AmtMap wr M1 a.ours.length D1 from hrg.owns)
      have HKr := Lib.hid hK
      have HMr := Lib.hid hM
      have HBr := Lib.hid hbl
      have hnK : nK ≤ 1000 := by omega
      have hM1n : M1 ≠ w3.heap.size := by omega
      have hzr := hbl.size
      clear hrg hcs hK hM hbl HKI hc0 hl0
      go_wp2_with (first
        | (at_range; refine wpList_range_own _ rfl _ 84 rfl 9 3 keyedS Tryz.underlying84 _ M2 _ D2 rfl HMr.out ?_; intro w7 hrg0 hg0 hs0)
        | go_in)
      go_frame
      obtain ⟨r2, hr2⟩ : ∃ r, wr.heap.size = r := ⟨_, rfl⟩
      rw [hr2] at hrg0 hs0 ⊢
      have hr2lo : w3.heap.size + 1 < r2 := by omega
      have hK0 := World.ownsMap.kept HKr.out hg0 (by simp)
      have hM0 := World.ownsMap.kept HM1r.out hg0 (by simp)
      have hB0 := HBr.out.grown hg0 (by omega) (fun j hj => by cases hj)
      clear hr2
      go_loopw [9] (fun _ wr => ∃ (left : Lit → Bool) (cnt nK : Nat) (DK : DataW Unit), wr.ranges Tryz.prog 9 (plainElem Tryz.prog 3) M2 r2 b.thr.length D2 left cnt ∧ nK + cnt ≤ 2000 ∧ KeyMap wr w3.heap.size nK DK ∧ Hid (KeysIn DK fun s => (amtO a.ours s).isSome = true ∨ ((amtO b.thr s).isSome = true ∧ left (.string (kb s)) = false)) ∧ AmtMap wr M1 a.ours.length D1 ∧ Below w.heap.size w wr)
        (fun _ wr => wr.rangeLeft M2 r2)
      case atStart =>
        refine ⟨_, _, nK, DK, hrg0, ?_, hK0, Lib.hid (HK1.out.iff fun s => ?_), hM0, hB0⟩
        · have := own_size HMr.out
          have := HSB.out.1
          omega
        · rw [HD2.out.has s]
          cases (amtO b.thr s).isSome <;> simp
      case round =>
        clear hrg0 hK0 hM0 hB0 hg0 hs0 HK1 HM1r HKr HMr HBr hnK
        rename_i wr0
        obtain ⟨left, cnt, nK, DK, hrg, hcs, hK, HKI, hM, hbl⟩ := hrel
        go_wp2_with (first
          | (at_next; refine wpList_next_ranges _ rfl _ rfl 9 keyedS (plainElem Tryz.prog 3) encStr (Value.int .i64) (fun _ _ h => invKs h) (fun _ _ h => invVi h) M2 r2 b.thr.length D2 _ _ rfl hrg ?_ ?_)
          | go_in)
        · intro hc0 hl0
          have HKU := Lib.hid (show KeysIn DK fun s => (amtO a.ours s).isSome = true ∨ (amtO b.thr s).isSome = true from HKI.out.iff fun s => by simp [hl0])
          have HM2r := Lib.hid (show AmtMap wr M2 b.thr.length D2 from hrg.owns)
          have HM1r := Lib.hid hM
          have HKr := Lib.hid hK
          have HBr := Lib.hid hbl
          have hsz := own_size hK
          have hmax : Maps.size DK ≤ maxLen := by unfold maxLen; omega
          have hbytes : Maps.size DK * 16 ≤ 140737488355328 := by omega
          clear hrg hcs hK hM hbl HKI hc0 hl0
          go_wp2_with (fail)
          refine (callsIn_wide.1 (Tryz.maps_Keys_47 _ _)).mono ?_
          rintro e w7 ⟨rfl, rfl⟩
          go_wp2_with (fail)
          refine (callsIn_wide.1 (Tryz.slices_Sorted_keys_46_47 w3.heap.size nK DK _ wr HKr.out hmax hbytes)).mono ?_
          rintro e w8 ⟨v, ss, rfl, hS, hrow, hnil, hb8⟩
          have HOS := Lib.hid (show OwnSl tStr 9 (wr.heap.size + 1) w8 v (keysU a.ours b.thr) from strs_own (by simpa using hrow) (sorted_keys HKr.out Tryz.underlying9 HKU.out hS) (fun s hs => by
            rcases keysU_mem hs with ⟨r, hr, rfl⟩ | ⟨r, hr, rfl⟩
            · exact (recs_ok HA.out.ours r hr).key
            · exact (recs_ok HB.out.thr r hr).key))
          obtain ⟨ak, ck, e8, hk1, hk2⟩ := HOS.out.form
          subst e8
          have HB8 := Lib.hid (show Below wr.heap.size wr w8 from (bl_alloc (Below.refl _ _) _).trans (hb8.mono (by simp)))
          clear hS hrow hnil hb8
          go_wp2_with (fail)
          have HLN := Lib.hid (show (keysU a.ours b.thr).length ≤ 2000 by
            have := keysU_len a.ours b.thr
            have := HSA.out.1
            have := HSB.out.1
            omega)
          have HDT := Lib.hid (fun k h => differ_take a.ours b.thr (k := k) h)
          have HDE := Lib.hid (show (keysU a.ours b.thr).filterMap (difOf a.ours b.thr) = differC a.ours b.thr from rfl)
          have HAM1 := Lib.hid (fun s => amount_bound s a.ours HSA.out.2)
          have HAM2 := Lib.hid (fun s => amount_bound s b.thr HSB.out.2)
          have HKO := Lib.hid (show ∀ s ∈ keysU a.ours b.thr, s.size ≤ maxLen from fun s hs => by
            rcases keysU_mem hs with ⟨r, hr, rfl⟩ | ⟨r, hr, rfl⟩
            · exact (recs_ok HA.out.ours r hr).key
            · exact (recs_ok HB.out.thr r hr).key)
          obtain ⟨U, hU⟩ : ∃ U, keysU a.ours b.thr = U := ⟨_, rfl⟩
          rw [hU] at HOS HLN HDT HDE HKO hk1 ⊢
          obtain ⟨aU, cU, bU, oU, eU, -, -, hoU⟩ := Go.Tw.strs_open HOS.out.sl
          simp only [Value.slice.injEq, true_and] at eU
          obtain ⟨rfl, rfl⟩ := eU
          have HOU := Lib.hid hoU
          have HM18 := Lib.hid (show AmtMap w8 M1 a.ours.length D1 from own_below HM1r.out HB8.out)
          have HM28 := Lib.hid (show AmtMap w8 M2 b.thr.length D2 from own_below HM2r.out HB8.out)
          have HBW := Lib.hid (bl_trans HBr.out HB8.out)
          clear hoU hU HOS HKU HM2r HM1r HKr HBr HB8 hsz hmax hbytes hk1 hk2 e1 hz2 hl1 hl2 HM1 HM2 HB3
          go_wp2_with (fail)
          go_loopg [40, 10] U.length (fun g i v wr => ∃ (k : Nat) (v0 : Value), v0 = v ∧ k + g = U.length ∧ i = .int .i64 k ∧ OwnSl tDif 63 w8.heap.size wr v0 ((U.take k).filterMap (difOf a.ours b.thr)) ∧ Below w8.heap.size w8 wr)
          case atStart => exact ⟨0, _, rfl, by omega, rfl, OwnSl.nil _ _ _ _, Below.refl _ _⟩
          case round =>
            obtain ⟨k, v0, rfl, hk, rfl, hown, hb⟩ := hrel
            have HO := Lib.hid hown
            obtain ⟨ao, co, rfl, ho1, ho2⟩ := hown.form
            unfold maxLen at ho2
            have HB := Lib.hid hb
            have hsb := hb.size
            clear hown hb
            by_cases hlt : k < U.length
            · obtain ⟨rfl, -, -, d0, hss⟩ := HOU.out _ (.of_below HB.out) k hlt
              obtain ⟨s, hs⟩ : ∃ s, U[k] = s := ⟨_, rfl⟩
              have hUl := HLN.out
              have HT := Lib.hid (HDT.out k hlt)
              have HKG := Lib.hid (show k + 1 + (U.length - (k + 1)) = U.length by omega)
              rw [hs] at d0 hss HT
              have k0 : (0 : Int) ≤ (k : Int) := by omega
              have k1 : (k : Int) < (U.length : Int) := by omega
              have hkey := Go.WideMaps.keyOf_string_mk (k := 9) Tryz.underlying9 hss
              obtain ⟨c1, hr1, hat1, hw1⟩ := World.ownsMap.lookup_int (own_below HM18.out HB.out) keyedS Tryz.underlying84 Tryz.underlying3 (by kernel_rfl) hkey
              obtain ⟨c2, hr2, hat2, hw2⟩ := World.ownsMap.lookup_int (own_below HM28.out HB.out) keyedS Tryz.underlying84 Tryz.underlying3 (by kernel_rfl) hkey
              have hc1 : amountC a.ours s = c1 := by
                have := HD1.out.get s
                rw [show Lit.string (kb s) = Lit.string s.data.toList from rfl, hat1, amtO_amount] at this
                injection this with this
                injection this with _ this
                exact this.symm
              have hc2 : amountC b.thr s = c2 := by
                have := HD2.out.get s
                rw [show Lit.string (kb s) = Lit.string s.data.toList from rfl, hat2, amtO_amount] at this
                injection this with this
                injection this with _ this
                exact this.symm
              have hdo : difOf a.ours b.thr s = if c1 = c2 then none else some ⟨s, c1, c2⟩ := by unfold difOf; rw [hc1, hc2]
              have HDO := Lib.hid hdo
              have HWF := Lib.hid (show i64ok c1 ∧ i64ok c2 from ⟨wf_i64 hw1, wf_i64 hw2⟩)
              have HSS := Lib.hid hss
              have hol : ((U.take k).filterMap (difOf a.ours b.thr)).length ≤ 2000 := by
                have q1 := List.length_filterMap_le (difOf a.ours b.thr) (U.take k)
                rw [List.length_take] at q1
                have := HLN.out
                omega
              obtain ⟨l, hl⟩ : ∃ l, (U.take k).filterMap (difOf a.ours b.thr) = l := ⟨_, rfl⟩
              rw [hl] at HO HT hol ho1 ⊢
              clear hs hkey hat1 hat2 hw1 hw2 hc1 hc2 hdo hss hl
              by_cases hcc : c1 = c2
              · have hne : (c1 != c2) = false := by simpa using hcc
                have HN := Lib.hid (show (U.take (k + 1)).filterMap (difOf a.ours b.thr) = l by rw [HT.out, HDO.out, if_pos hcc]; simp)
                clear hcc
                go_wp2_with (fail)
                go_roundg (U.length - (k + 1))
                case measure => omega
                case rel => exact ⟨k + 1, _, rfl, HKG.out, by go_num, by rw [HN.out]; exact HO.out, HB.out⟩
              · have hne : (c1 != c2) = true := by simpa using hcc
                have HN := Lib.hid (show (U.take (k + 1)).filterMap (difOf a.ours b.thr) = l ++ [⟨s, c1, c2⟩] by rw [HT.out, HDO.out, if_neg hcc]; rfl)
                clear hcc
                go_wp2_with (
                  at_builtin
                  refine wpList_append_one (.tmp 51) (.tmp 60) rfl 60 rfl slDif rfl HO.out rfl (S := fun _ => False) (y := ⟨s, c1, c2⟩) (tDif_mk (r := ⟨s, c1, c2⟩) ⟨HSS.out, HWF.out.1, HWF.out.2⟩) (fun _ h => h.elim) (by omega) (by unfold maxLen; omega) hsb ?_
                  intro v3 w9 ho9 hg9 hb9)
                go_roundg (U.length - (k + 1))
                case measure => omega
                case rel => exact ⟨k + 1, _, rfl, HKG.out, by go_num, by rw [HN.out]; exact ho9, HB.out.trans hb9⟩
            · obtain rfl : k = U.length := by omega
              have hkd : decide ((U.length : Int) < (U.length : Int)) = false := by simp
              have HR := Lib.hid (show OwnSl tDif 63 w.heap.size wr (.slice ao ((U.take U.length).filterMap (difOf a.ours b.thr)).length co) (differC a.ours b.thr) from by
                have := HO.out
                rw [List.take_length, HDE.out] at this ⊢
                exact own_low this HBW.out.size)
              clear hk hlt
              go_wp2_with (fail)
              go_ret
              exact ⟨⟨_, rfl, HR.out⟩, bl_trans HBW.out HB.out⟩
        · intro x c kl yd yp w5 cnt1 hkey hlk hv hat hrg1 hlt hg1 hs1 hen
          obtain ⟨x', ex, rfl, hxl⟩ := Maps.keyOf_str Tryz.underlying9 hkey
          obtain rfl := encStr_inj ex
          have hK1 := World.ownsMap.kept hK hg1 (by intro e; injection e with e; omega)
          have hM5 := World.ownsMap.kept hM hg1 (by intro e; injection e with e; omega)
          have hn : nK < maxLen := by unfold maxLen; omega
          have hmk : w3.heap.size < w5.heap.size := hK1.lt
          have hrn := hrg.lt
          go_wp2_with (first
            | (at_mapUpdate; refine wpList_mapUpdate_own _ rfl _ _ _ 86 rfl 9 4 keyedS Tryz.underlying86 _ w3.heap.size _ _ rfl hK1 hn _ _ (.string x) rfl rfl hkey (.lit (.bool true)) [] (plainElem_bool Tryz.underlying4 true) ?_; intro w6 hK2 hg2; go_frame)
            | go_in)
          have hrg2 := hrg1.kept hg2 (by intro e; injection e with e; omega) (by intro e; injection e with e; omega)
          have hM6 := World.ownsMap.kept hM5 hg2 (by intro e; injection e with e; omega)
          go_roundw
          case rel => exact ⟨_, cnt1, nK + 1, _, hrg2, by omega, hK2, Lib.hid (HKI.out.step hK.isMap HD2.out hat _), hM6, (hbl.grown hg1 hbl.size (fun j e => by injection e with e; omega)).grown hg2 (by have := hbl.size; omega) (fun j e => by injection e with e; omega)⟩
          case measure => rw [hrg2.left_eq, hrg.left_eq]; exact hlt
    · intro x c kl yd yp w5 cnt1 hkey hlk hv hat hrg1 hlt hg1 hs1 hen
      obtain ⟨x', ex, rfl, hxl⟩ := Maps.keyOf_str Tryz.underlying9 hkey
      obtain rfl := encStr_inj ex
      have hK1 := World.ownsMap.kept hK hg1 (by intro e; injection e with e; omega)
      have hM5 := World.ownsMap.kept hM hg1 (by intro e; injection e with e; omega)
      have hn : nK < maxLen := by unfold maxLen; omega
      have hmk : w3.heap.size < w5.heap.size := hK1.lt
      have hrn := hrg.lt
      go_wp2_with (first
        | (at_mapUpdate; refine wpList_mapUpdate_own _ rfl _ _ _ 86 rfl 9 4 keyedS Tryz.underlying86 _ w3.heap.size _ _ rfl hK1 hn _ _ (.string x) rfl rfl hkey (.lit (.bool true)) [] (plainElem_bool Tryz.underlying4 true) ?_; intro w6 hK2 hg2; go_frame)
        | go_in)
      have hrg2 := hrg1.kept hg2 (by intro e; injection e with e; omega) (by intro e; injection e with e; omega)
      have hM6 := World.ownsMap.kept hM5 hg2 (by intro e; injection e with e; omega)
      go_roundw
      case rel => exact ⟨_, cnt1, nK + 1, _, hrg2, by omega, hK2, Lib.hid (HKI.out.step hK.isMap HD1.out hat _), hM6, (hbl.grown hg1 hbl.size (fun j e => by injection e with e; omega)).grown hg2 (by have := hbl.size; omega) (fun j e => by injection e with e; omega)⟩
      case measure => rw [hrg2.left_eq, hrg.left_eq]; exact hlt
end Go.Proofs.YtmjbbpappigngaaGreat
