/-
  Layer 37 (post): the reference's ledger: Balance, fits, Copy.
-/
import Derived.Test.YtifcelebfagjbaaGreatDoorMgR
import Derived.Test.YtifcelebfagjbaaGreatDoorMgL
import Derived.Test.YtifcelebfagjbaaGreatDoorMgJ
namespace Go.Tw.Po
open Go.RowKit Go.Tw Go.Sort Go.Tw.Ord
def balS (a : ByteArray) (l : List SI) : Int := sumL (l.filter fun p => decide (p.s = a))
theorem balS_snoc (a : ByteArray) (l : List SI) (p : SI) : balS a (l ++ [p]) = if p.s = a then balS a l + p.n else balS a l := by
  unfold balS
  rw [List.filter_append, sumL_app, List.filter_cons, List.filter_nil]
  by_cases h : p.s = a
  · rw [if_pos (by simpa using h), if_pos h]; simp [sumL]
  · rw [if_neg (by simpa using h), if_neg h]; simp [sumL]
end Go.Tw.Po
namespace Go.Proofs.YtifcelebfagjbaaGreatDoor
open Go.RowKit Go.Tw Go.Tw.Ord Go.Tw.Po Go.Sort
set_option maxRecDepth 100000 in
set_option maxHeartbeats 4000000 in
theorem balR_any (l : List Ent) (v : Value) (a : ByteArray) (w : World) (h : SlIs (tEnt 101) (· < w.heap.size) w v l) (hk : LOk 4004 l) :
    Calls Tryz.prog 26 #[.agg #[v], .string a] w fun e w' => e = .returned (.int .i64 (balL a l)) ∧ Below w.heap.size w w' := by
  obtain ⟨ao, cap, bi, off, rfl, hl, hm, ho⟩ := ent_open h
  unfold maxLen at hm
  have HO := Lib.hid ho
  have HF := Lib.hid hk
  have HBF := Lib.hid (bal_flat a l)
  have n0 := alloc1_0 w (.cells #[.slice ao l.length cap] 68)
  have HB := Lib.hid (bl_alloc (Below.refl w.heap.size w) (.cells #[.slice ao l.length cap] 68))
  have d0 : (w.alloc (.cells #[.slice ao l.length cap] 68)).cell? ⟨w.heap.size, 0, none⟩ = some (.slice ao l.length cap) := cell_of_row _ _ 0 _ _ _ n0
  clear h ho hk n0
  go_enter Tryz.func26, Tryz.ntmps26
  go_wp2
  generalize w.alloc (.cells #[.slice ao l.length cap] 68) = w0 at HB d0 ⊢
  go_loopg [5, 6] l.length (fun g n i wr => ∃ k : Nat, k + g = l.length ∧ i = .int .i64 k ∧ n = .int .i64 (balS a (posL (l.take k))) ∧ wr = w0)
  case atStart => exact ⟨0, by omega, rfl, rfl, rfl⟩
  case round =>
    obtain ⟨k, hk, rfl, rfl, rfl⟩ := hrel
    by_cases hlt : k < l.length
    · obtain ⟨rfl, -, hbi, hok, hv, hsl, c0, c1, c2⟩ := HO.out wr (.of_below HB.out) k hlt
      have k0 : (0 : Int) ≤ (k : Int) := by omega
      have k1 : (k : Int) < (l.length : Int) := by omega
      have HPT := Lib.hid (pos_take hlt)
      have HPS := Lib.hid (pos_split hlt)
      generalize l[k] = y at *
      obtain ⟨a2, c2', b2, o2, rfl, h21, h22, ho2⟩ := si_open hsl
      unfold maxLen at h22
      have HO2 := Lib.hid ho2
      obtain ⟨q, hq⟩ : ∃ q, posL (l.take k) = q := ⟨_, rfl⟩
      rw [hq] at HPT HPS ⊢
      have HL := Lib.hid (show q.length + y.ps.length ≤ 4004 ∧ Fit (q ++ y.ps) from by
        have h1 := HF.out.len
        have h2 := HF.out.fit
        rw [HPS.out] at h1 h2
        rw [List.length_append, List.length_append] at h1
        exact ⟨by omega, fun x hx => h2 x (by
          rw [← List.append_assoc]; exact List.mem_append_left _ hx)⟩)
      clear hq hsl ho2
      go_wp2
      go_loopg [5, 7] y.ps.length (fun g n i wr2 => ∃ j : Nat, j + g = y.ps.length ∧ i = .int .i64 j ∧ n = .int .i64 (balS a (q ++ y.ps.take j)) ∧ wr2 = wr)
      case atStart => exact ⟨0, by omega, rfl, by rw [List.take_zero, List.append_nil], rfl⟩
      case round =>
        obtain ⟨j, hj, rfl, rfl, rfl⟩ := hrel
        by_cases hlt2 : j < y.ps.length
        · obtain ⟨rfl, -, hb2, hop, e0, e1⟩ := HO2.out wr (SameOn.refl _ _) j hlt2
          have j0 : (0 : Int) ≤ (j : Int) := by omega
          have j1 : (j : Int) < (y.ps.length : Int) := by omega
          have HPJ := Lib.hid (show balS a (q ++ y.ps.take (j + 1)) = if y.ps[j].s = a then balS a (q ++ y.ps.take j) + y.ps[j].n else balS a (q ++ y.ps.take j) by rw [List.take_succ_eq_append_getElem hlt2, ← List.append_assoc, balS_snoc])
          have hb0 := bal_bound (l := q ++ y.ps.take j) (fun x hx => HL.out.2 x (by
            rcases List.mem_append.1 hx with hx | hx
            · exact List.mem_append_left _ hx
            · exact List.mem_append_right _ (List.mem_of_mem_take hx))) a
          have hbl2 : (q ++ y.ps.take j).length ≤ 4004 := by rw [List.length_append, List.length_take]; have := HL.out.1; omega
          have hfp := fitsM_iff.1 (HL.out.2 y.ps[j] (List.mem_append_right _ (List.getElem_mem hlt2)))
          generalize y.ps[j] = p at *
          change -1125899906842624 * _ ≤ balS a (q ++ y.ps.take j) ∧ balS a (q ++ y.ps.take j) ≤ _ at hb0
          generalize balS a (q ++ y.ps.take j) = c at *
          obtain ⟨xs, xn⟩ := p
          simp only at *
          have hwr : IntKind.i64.wrap (c + xn) = c + xn := wrap_in (by omega) (by omega)
          clear hb0 hop hbl2 hfp
          obtain ⟨b, hb⟩ : ∃ b, (xs.toList == a.toList) = b := ⟨_, rfl⟩
          have HBB := Lib.hid (show decide (xs = a) = b by rw [← hb, eq_str])
          cases b with
          | true =>
            have HXA := Lib.hid (show xs = a by simpa using HBB.out)
            go_wp2
            go_roundg (y.ps.length - (j + 1))
            case measure => omega
            case rel => exact ⟨j + 1, by omega, by go_num, by rw [HPJ.out, if_pos HXA.out], rfl⟩
          | false =>
            have HXA := Lib.hid (show ¬ xs = a by simpa using HBB.out)
            go_wp2
            go_roundg (y.ps.length - (j + 1))
            case measure => omega
            case rel => exact ⟨j + 1, by omega, by go_num, by rw [HPJ.out, if_neg HXA.out], rfl⟩
        · have hjd : decide ((j : Int) < (y.ps.length : Int)) = false := by simp; omega
          rw [show y.ps.take j = y.ps from List.take_of_length_le (by omega)]
          go_wp2
          go_roundg (l.length - (k + 1))
          case measure => omega
          case rel => exact ⟨k + 1, by omega, by go_num, by rw [HPT.out], rfl⟩
    · have hkd : decide ((k : Int) < (l.length : Int)) = false := by simp; omega
      rw [show l.take k = l from List.take_of_length_le (by omega)]
      go_wp2
      go_ret
      exact ⟨ret_int HBF.out, HB.out⟩
end Go.Proofs.YtifcelebfagjbaaGreatDoor
/-
  Layer 37 (post): the reference's Copy.
-/
namespace Go.Proofs.YtifcelebfagjbaaGreatDoor
open Go.RowKit Go.Tw Go.Tw.Ord Go.Tw.Po Go.Sort
set_option maxRecDepth 100000 in
set_option maxHeartbeats 4000000 in
theorem copyR_any (y : Ent) (v : Value) (w : World) (h : SlIs tSI (· < w.heap.size) w v y.ps) (hlen : y.ps.length ≤ 1000000) :
    Calls Tryz.prog 137 #[.agg #[.string y.key, .int .i64 y.tm, v]] w fun e w' => ∃ h', e = .returned (.agg #[.string y.key, .int .i64 y.tm, h']) ∧ NewL tSI 101 w.heap.size w' h' y.ps ∧ Below w.heap.size w w' := by
  have n0 := alloc2_0 w (.cells #[.string y.key, .int .i64 y.tm, v] 56) (.cells #[.string ⟨#[]⟩, .int .i64 0, .slice none 0 0] 56)
  have n1 := alloc2_1 w (.cells #[.string y.key, .int .i64 y.tm, v] 56) (.cells #[.string ⟨#[]⟩, .int .i64 0, .slice none 0 0] 56)
  have hb := bl_alloc (bl_alloc (Below.refl w.heap.size w) (.cells #[.string y.key, .int .i64 y.tm, v] 56)) (.cells #[.string ⟨#[]⟩, .int .i64 0, .slice none 0 0] 56)
  obtain ⟨ao, cap, _, _, rfl, -⟩ := id h
  have HH := Lib.hid h
  clear h
  go_enter Tryz.func137, Tryz.ntmps137
  go_upto_region 2 with (fail)
  generalize (w.alloc (.cells #[.string y.key, .int .i64 y.tm, .slice ao y.ps.length cap] 56)).alloc (.cells #[.string ⟨#[]⟩, .int .i64 0, .slice none 0 0] 56) = wb at n0 n1 hb ⊢
  have HB := Lib.hid hb
  have HX := Lib.hid (show ∀ w', Below wb.heap.size wb w' → w'.cell? ⟨w.heap.size, 0, none⟩ = some (.string y.key) ∧ w'.cell? ⟨w.heap.size, 1, none⟩ = some (.int .i64 y.tm) ∧ w'.cell? ⟨w.heap.size, 2, none⟩ = some (.slice ao y.ps.length cap) from fun w' hw' => by
    obtain ⟨z0, z1, z2, -⟩ := blk3 ((hw'.block _ (lt_of_heap n0)).trans n0)
    exact ⟨z0, z1, z2⟩)
  have HN := Lib.hid n1
  have hl1 := lt_of_heap n1
  clear n0 n1 hb
  refine wp_region_E 9 (fun w' => Below wb.heap.size wb w') (by kernel_rfl) ((by (repeat (first | (with_reducible exact Below.refl _ _) | (with_reducible apply bl_drewN) | (with_reducible apply bl_alloc) | (with_reducible apply Below.drew))); done)) (fun hHeld => ?_)
  refine wpE_take (i := 0) (v := ?_) rfl (by kernel_rfl) (fun _ _ _ h => h) (Or.inl ⟨by kernel_rfl, ?_⟩) (by assumption) ?_
  rotate_left
  focus (intro w9 hS9; (try dsimp only at hS9); go_simp; (try with_reducible rfl))
  (try simp only [List.getElem_toArray, List.getElem_cons_succ, List.getElem_cons_zero])
  (try simp only [Act.put])
  (try simp only [List.setIfInBounds_toArray])
  (repeat (first | simp only [List.set_cons_succ] | simp only [List.set_cons_zero]))
  refine wpE_take (i := 1) (v := ?_) rfl (by kernel_rfl) (fun _ _ _ h => h) (Or.inl ⟨by kernel_rfl, ?_⟩) (by assumption) ?_
  rotate_left
  focus (intro w9 hS9; obtain ⟨z0, z1, z2⟩ := HX.out w9 hS9; clear hS9; go_simp; (try with_reducible rfl))
  (try simp only [List.getElem_toArray, List.getElem_cons_succ, List.getElem_cons_zero])
  (try simp only [Act.put])
  (try simp only [List.setIfInBounds_toArray])
  (repeat (first | simp only [List.set_cons_succ] | simp only [List.set_cons_zero]))
  refine wpE_take (i := 2) (v := ?_) rfl (by kernel_rfl) (fun _ _ _ h => h) (Or.inl ⟨by kernel_rfl, ?_⟩) (by assumption) ?_
  rotate_left
  focus (intro w9 hS9; (try dsimp only at hS9); go_simp; (try with_reducible rfl))
  (try simp only [List.getElem_toArray, List.getElem_cons_succ, List.getElem_cons_zero])
  (try simp only [Act.put])
  (try simp only [List.setIfInBounds_toArray])
  (repeat (first | simp only [List.set_cons_succ] | simp only [List.set_cons_zero]))
  refine wpE_take (i := 3) (v := ?_) rfl (by kernel_rfl) (fun _ _ _ h => h) (Or.inl ⟨by kernel_rfl, ?_⟩) (by assumption) ?_
  rotate_left
  focus (intro w9 hS9; obtain ⟨z0, z1, z2⟩ := HX.out w9 hS9; clear hS9; go_simp; (try with_reducible rfl))
  (try simp only [List.getElem_toArray, List.getElem_cons_succ, List.getElem_cons_zero])
  (try simp only [Act.put])
  (try simp only [List.setIfInBounds_toArray])
  (repeat (first | simp only [List.set_cons_succ] | simp only [List.set_cons_zero]))
  refine wpE_take (i := 4) (v := ?_) rfl (by kernel_rfl) (fun _ _ _ h => h) (Or.inl ⟨by kernel_rfl, ?_⟩) (by assumption) ?_
  rotate_left
  focus (intro w9 hS9; (try dsimp only at hS9); go_simp; (try with_reducible rfl))
  (try simp only [List.getElem_toArray, List.getElem_cons_succ, List.getElem_cons_zero])
  (try simp only [Act.put])
  (try simp only [List.setIfInBounds_toArray])
  (repeat (first | simp only [List.set_cons_succ] | simp only [List.set_cons_zero]))
  refine wpE_take (i := 5) (v := ?_) rfl (by kernel_rfl) (fun _ _ _ h => h) (Or.inl ⟨by kernel_rfl, ?_⟩) (by assumption) ?_
  rotate_left
  focus (intro w9 hS9; (try dsimp only at hS9); go_simp; (try with_reducible rfl))
  (try simp only [List.getElem_toArray, List.getElem_cons_succ, List.getElem_cons_zero])
  (try simp only [Act.put])
  (try simp only [List.setIfInBounds_toArray])
  (repeat (first | simp only [List.set_cons_succ] | simp only [List.set_cons_zero]))
  refine wpE_take (i := 6) (v := ?_) rfl (by kernel_rfl) (fun _ _ _ h => h) (Or.inl ⟨by kernel_rfl, ?_⟩) (by assumption) ?_
  rotate_left
  focus (intro w9 hS9; obtain ⟨z0, z1, z2⟩ := HX.out w9 hS9; clear hS9; go_simp; (try with_reducible rfl))
  (try simp only [List.getElem_toArray, List.getElem_cons_succ, List.getElem_cons_zero])
  (try simp only [Act.put])
  (try simp only [List.setIfInBounds_toArray])
  (repeat (first | simp only [List.set_cons_succ] | simp only [List.set_cons_zero]))
  refine wpE_ready (rs := [7]) (by kernel_rfl) (by kernel_rfl) ?_
  refine AllReadyE.cons rfl (fun K hK => ?_) AllReadyE.nil
  rw [if_pos (show _ = true by kernel_rfl)]
  refine wp_append_sl (.tmp 8) (.tmp 10) 54 rfl slPst (B := wb.heap.size) (v := .slice none 0 0) (l := []) (l2 := y.ps) (v2 := .slice ao y.ps.length cap) (S := (· < w.heap.size)) (by go_simp) (OwnSl.nil _ _ _ _) (by go_simp) (HH.out.keep (fun _ h => h) (by first | exact .of_below HB.out | exact .of_below (Below.drew HB.out))) (fun q hq => ⟨Nat.lt_of_lt_of_le hq HB.out.size, by simp [Value.ownBlock]⟩) (small_bytes (k := 1000000) (by simpa using hlen) (by decide)) (Nat.le_trans (by simpa using hlen) (show 1000000 ≤ maxLen by decide)) (Nat.le_refl _) ?_
  intro v5 w5 ho5 hg5 _
  rw [List.nil_append] at ho5
  obtain ⟨a5, c5, rfl, -⟩ := ho5.form
  have HO5 := Lib.hid ho5
  have HB5 := Lib.hid (show Below wb.heap.size wb w5 from by first | exact Below.of_grown hg5 (Nat.le_refl _) (fun k hk => by cases hk) | exact (Below.drew (Below.refl _ _)).trans (Below.of_grown hg5 (Nat.le_refl _) (fun k hk => by cases hk)))
  clear ho5 hg5
  clear hHeld
  refine hK.out _ _ (HB5.out) (fun hHeld => ?_)
  clear hK K
  (try simp only [List.getElem_toArray, List.getElem_cons_succ, List.getElem_cons_zero])
  (try simp only [Act.put])
  (try simp only [List.setIfInBounds_toArray])
  (repeat (first | simp only [List.set_cons_succ] | simp only [List.set_cons_zero]))
  refine wpE_ready (rs := [8]) (by kernel_rfl) (by kernel_rfl) ?_
  refine AllReadyE.cons rfl (fun K hK => ?_) AllReadyE.nil
  go_simp
  clear hHeld
  refine hK.out _ _ (HB5.out) (fun hHeld => ?_)
  clear hK K
  clear hHeld
  refine wpE_out (by kernel_rfl) ?_
  have n5 := (HB5.out.block _ hl1).trans HN.out
  obtain ⟨q0, q1, q2, qf⟩ := blk3 n5
  have hl5 := lt_of_heap n5
  refine wpAny_ready (rs := [9]) (by kernel_rfl) (by simp) ?_
  refine AllReady.cons rfl (fun K hK => ?_) AllReady.nil
  rw [if_pos (show _ = true by kernel_rfl)]
  go_simp
  refine hK _ _ ?_
  clear hK K
  refine wpAny_done (by kernel_rfl) ?_ _
  have n6 : (((w5.setCell ⟨w.heap.size + 1, 0, none⟩ (.string y.key)).setCell ⟨w.heap.size + 1, 1, none⟩ (.int .i64 y.tm)).setCell ⟨w.heap.size + 1, 2, none⟩ (.slice a5 y.ps.length c5)).heap[w.heap.size + 1]? = some (.cells #[.string y.key, .int .i64 y.tm, .slice a5 y.ps.length c5] 56 (0, 0)) := heap_setCell_same _ _ _ _ _ _ (heap_setCell_same _ _ _ _ _ _ (heap_setCell_same _ _ _ _ _ _ n5))
  have b6 : Below w.heap.size w (((w5.setCell ⟨w.heap.size + 1, 0, none⟩ (.string y.key)).setCell ⟨w.heap.size + 1, 1, none⟩ (.int .i64 y.tm)).setCell ⟨w.heap.size + 1, 2, none⟩ (.slice a5 y.ps.length c5)) := bl_set (bl_set (bl_set (bl_trans HB.out HB5.out) _ (by simp only; omega)) _ (by simp only; omega)) _ (by simp only; omega)
  have o6 : NewL tSI 101 w.heap.size (((w5.setCell ⟨w.heap.size + 1, 0, none⟩ (.string y.key)).setCell ⟨w.heap.size + 1, 1, none⟩ (.int .i64 y.tm)).setCell ⟨w.heap.size + 1, 2, none⟩ (.slice a5 y.ps.length c5)) (.slice a5 y.ps.length c5) y.ps := ((NewL.ofOwn ownSI HO5.out (Nat.le_refl _)).same (fun j hj => ((Below.heap_setCell _ _ _ _ (by simp only; omega)).trans (Below.heap_setCell _ _ _ _ (by simp only; omega))).trans (Below.heap_setCell _ _ _ _ (by simp only; omega)))).mono HB.out.size
  obtain ⟨t0, t1, t2, -⟩ := blk3 n6
  clear q0 q1 q2 qf n5 hl5
  generalize ((w5.setCell ⟨w.heap.size + 1, 0, none⟩ (.string y.key)).setCell ⟨w.heap.size + 1, 1, none⟩ (.int .i64 y.tm)).setCell ⟨w.heap.size + 1, 2, none⟩ (.slice a5 y.ps.length c5) = w6 at *
  go_wp2
  refine bodyPost_ret (v := .agg #[.string y.key, .int .i64 y.tm, .slice a5 y.ps.length c5]) (by simp [results, Tryz.results137, go_sem, t0, t1, t2]) rfl ?_
  exact ⟨_, rfl, o6, b6⟩
end Go.Proofs.YtifcelebfagjbaaGreatDoor
/-
  Layer 37 (post): the reference's ledger Find.
-/
namespace Go.Proofs.YtifcelebfagjbaaGreatDoor
open Go.RowKit Go.Tw Go.Tw.Ord Go.Tw.Po Go.Sort
/-- whatever entry was found; whether -/
def FndE (es : List Ent) (s : ByteArray) (w : World) (e : Ending) (w' : World) : Prop := (∃ s' t' a n c, e = .returned (.tuple #[.agg #[.string s', .int .i64 t', .slice a n c], .bool (es.any fun x => decide (x.key = s))])) ∧ Below w.heap.size w w'
set_option maxRecDepth 100000 in
set_option maxHeartbeats 4000000 in
theorem findR32_any (l : List Ent) (v : Value) (s : ByteArray) (w : World) (h : SlIs (tEnt 101) (· < w.heap.size) w v l) (hps : ∀ x ∈ l, x.ps.length ≤ 1000000) :
    Calls Tryz.prog 136 #[.agg #[v], .string s] w (FndE l s w) := by
  obtain ⟨ao, cap, bi, off, rfl, hl, hm, ho⟩ := ent_open h
  unfold maxLen at hm
  have HO := Lib.hid ho
  have HP := Lib.hid hps
  have n0 := alloc2_0 w (.cells #[.slice ao l.length cap] 68) (.cells #[.string ⟨#[]⟩, .int .i64 0, .slice none 0 0] 56)
  have n1 := alloc2_1 w (.cells #[.slice ao l.length cap] 68) (.cells #[.string ⟨#[]⟩, .int .i64 0, .slice none 0 0] 56)
  have hb := bl_alloc (bl_alloc (Below.refl w.heap.size w) (.cells #[.slice ao l.length cap] 68)) (.cells #[.string ⟨#[]⟩, .int .i64 0, .slice none 0 0] 56)
  clear h ho hps
  go_enter Tryz.func136, Tryz.ntmps136
  go_wp2
  generalize (w.alloc (.cells #[.slice ao l.length cap] 68)).alloc (.cells #[.string ⟨#[]⟩, .int .i64 0, .slice none 0 0] 56) = w0 at n0 n1 hb ⊢
  have d0 := cell_of_row _ _ 0 _ _ _ n0
  have d0 : w0.cell? ⟨w.heap.size, 0, none⟩ = some (.slice ao l.length cap) := d0
  have HB := Lib.hid hb
  have HN := Lib.hid n1
  have hl1 := lt_of_heap n1
  obtain ⟨q0, q1, q2, qf⟩ := blk3 n1
  clear n0 n1 hb
  go_loopg [6] l.length (fun g i wr => ∃ k : Nat, k + g = l.length ∧ i = .int .i64 k ∧ Hid (∀ j (hj : j < l.length), j < k → l[j].key ≠ s) ∧ wr = w0)
  case atStart => exact ⟨0, by omega, rfl, Lib.hid (fun j _ h => by omega), rfl⟩
  case round =>
    obtain ⟨k, hk, rfl, HT, rfl⟩ := hrel
    by_cases hlt : k < l.length
    · obtain ⟨rfl, -, hbi, hok, hv, hsl, c0, c1, c2⟩ := HO.out wr (.of_below HB.out) k hlt
      have k0 : (0 : Int) ≤ (k : Int) := by omega
      have k1 : (k : Int) < (l.length : Int) := by omega
      have HG1 := Lib.hid (show ∀ j (hj : j < l.length), j = k → l[j] = l[k] by rintro j hj rfl; rfl)
      have HM := Lib.hid (List.getElem_mem hlt)
      have hyp := HP.out _ HM.out
      generalize l[k] = y at *
      obtain ⟨hva, hvn, hvc, hve⟩ : ∃ a n c, hv = .slice a n c := by
        obtain ⟨a, c, _, _, e, -⟩ := hsl
        exact ⟨a, _, c, e⟩
      subst hve
      have hsl1 : SlIs tSI (· < wr.heap.size) wr (.slice hva hvn hvc) y.ps := hsl.keep (fun q (hq : q < w.heap.size) => Nat.lt_of_lt_of_le hq HB.out.size) (SameOn.refl _ _)
      have HCP := Lib.hid (copyR_any y _ wr hsl1 hyp)
      obtain ⟨b, hbq⟩ : ∃ b, (y.key.toList == s.toList) = b := ⟨_, rfl⟩
      have HKE := Lib.hid (show decide (y.key = s) = b by rw [← hbq, eq_str])
      clear hsl hsl1 hok
      cases b with
      | true =>
        have HR := Lib.hid (show (l.any fun x => decide (x.key = s)) = true from List.any_eq_true.2 ⟨y, HM.out, HKE.out⟩)
        clear HM
        go_wp2_with (fail)
        with_reducible refine HCP.out.mono ?_
        rintro r w2 ⟨h', rfl, hn2, hb2⟩
        obtain ⟨a2, c2', rfl, -⟩ := hn2.form
        have n2 := (hb2.block _ hl1).trans HN.out
        have hl2 := lt_of_heap n2
        have HB2 := Lib.hid (bl_trans HB.out hb2)
        clear q0 q1 q2 qf hn2 hb2 HCP
        obtain ⟨q0, q1, q2, qf⟩ := blk3 n2
        have n6 : (((w2.setCell ⟨w.heap.size + 1, 0, none⟩ (.string y.key)).setCell ⟨w.heap.size + 1, 1, none⟩ (.int .i64 y.tm)).setCell ⟨w.heap.size + 1, 2, none⟩ (.slice a2 y.ps.length c2')).heap[w.heap.size + 1]? = some (.cells #[.string y.key, .int .i64 y.tm, .slice a2 y.ps.length c2'] 56 (0, 0)) := heap_setCell_same _ _ _ _ _ _ (heap_setCell_same _ _ _ _ _ _ (heap_setCell_same _ _ _ _ _ _ n2))
        have b6 : Below w.heap.size w (((w2.setCell ⟨w.heap.size + 1, 0, none⟩ (.string y.key)).setCell ⟨w.heap.size + 1, 1, none⟩ (.int .i64 y.tm)).setCell ⟨w.heap.size + 1, 2, none⟩ (.slice a2 y.ps.length c2')) := bl_set (bl_set (bl_set HB2.out _ (by simp only; omega)) _ (by simp only; omega)) _ (by simp only; omega)
        clear n2
        go_wp2
        obtain ⟨t0, t1, t2, -⟩ := blk3 n6
        generalize ((w2.setCell ⟨w.heap.size + 1, 0, none⟩ (.string y.key)).setCell ⟨w.heap.size + 1, 1, none⟩ (.int .i64 y.tm)).setCell ⟨w.heap.size + 1, 2, none⟩ (.slice a2 y.ps.length c2') = w6 at *
        refine bodyPost_ret (v := .tuple #[.agg #[.string y.key, .int .i64 y.tm, .slice a2 y.ps.length c2'], .bool true]) (by simp [results, Tryz.results136, go_sem, t0, t1, t2]) rfl ?_
        exact ⟨⟨_, _, _, _, _, by rw [HR.out]⟩, b6⟩
      | false =>
        go_wp2
        go_roundg (l.length - (k + 1))
        case measure => omega
        case rel => exact ⟨k + 1, by omega, by go_num, Lib.hid (fun j hj h => by
          by_cases e : j = k
          · rw [HG1.out j hj e]; simpa using HKE.out
          · exact HT.out j hj (by omega)), rfl⟩
    · have hkd : decide ((k : Int) < (l.length : Int)) = false := by simp; omega
      have HR := Lib.hid (show (l.any fun x => decide (x.key = s)) = false from by
        rw [List.any_eq_false]
        intro x hx
        obtain ⟨j, hj, rfl⟩ := List.getElem_of_mem hx
        simpa using HT.out j hj (by omega))
      have n6 : (((wr.setCell ⟨w.heap.size + 1, 0, none⟩ (.string ⟨#[]⟩)).setCell ⟨w.heap.size + 1, 1, none⟩ (.int .i64 0)).setCell ⟨w.heap.size + 1, 2, none⟩ (.slice none 0 0)).heap[w.heap.size + 1]? = some (.cells #[.string ⟨#[]⟩, .int .i64 0, .slice none 0 0] 56 (0, 0)) := heap_setCell_same _ _ _ _ _ _ (heap_setCell_same _ _ _ _ _ _ (heap_setCell_same _ _ _ _ _ _ HN.out))
      have b6 : Below w.heap.size w (((wr.setCell ⟨w.heap.size + 1, 0, none⟩ (.string ⟨#[]⟩)).setCell ⟨w.heap.size + 1, 1, none⟩ (.int .i64 0)).setCell ⟨w.heap.size + 1, 2, none⟩ (.slice none 0 0)) := bl_set (bl_set (bl_set HB.out _ (by simp only; omega)) _ (by simp only; omega)) _ (by simp only; omega)
      go_wp2
      obtain ⟨t0, t1, t2, -⟩ := blk3 n6
      clear q0 q1 q2 qf
      generalize ((wr.setCell ⟨w.heap.size + 1, 0, none⟩ (.string ⟨#[]⟩)).setCell ⟨w.heap.size + 1, 1, none⟩ (.int .i64 0)).setCell ⟨w.heap.size + 1, 2, none⟩ (.slice none 0 0) = w6 at *
      refine bodyPost_ret (v := .tuple #[.agg #[.string ⟨#[]⟩, .int .i64 0, .slice none 0 0], .bool false]) (by simp [results, Tryz.results136, go_sem, t0, t1, t2]) rfl ?_
      exact ⟨⟨_, _, _, _, _, by rw [HR.out]⟩, b6⟩
end Go.Proofs.YtifcelebfagjbaaGreatDoor
/-
  Layer 37 (post): the reference's ledger Post.
-/
namespace Go.Tw.Po
open Go.RowKit Go.Tw Go.Sort Go.Tw.Ord
theorem balL_snoc (a : ByteArray) (es : List Ent) (e : Ent) : balL a (es ++ [e]) = balL a es + balE a e := by
  unfold balL
  simp
end Go.Tw.Po
namespace Go.Proofs.YtifcelebfagjbaaGreatDoor
open Go.RowKit Go.Tw Go.Tw.Ord Go.Tw.Po Go.Sort

/-- the answer of Post: a ledger and an error; what came with 0 lies in blocks made in the call -/
def LedE (w : World) (r : List Ent × Int) (e : Ending) (w' : World) : Prop := (∃ ve, e = .returned (.tuple #[.agg #[ve], .int .i64 r.2]) ∧ SlIs (tEnt 101) (fun k => (r.2 = 0 → w.heap.size ≤ k) ∧ k < w'.heap.size) w' ve r.1) ∧ Below w.heap.size w w'
set_option maxRecDepth 100000 in
set_option maxHeartbeats 8000000 in
theorem postR_any (es : List Ent) (ve : Value) (e : Ent) (pe : Value) (w : World) (h : SlIs (tEnt 101) (· < w.heap.size) w ve es) (hp : SlIs tSI (· < w.heap.size) w pe e.ps) (he : EntOk e) (hes : ∀ x ∈ es, EOk x) (hl : es.length ≤ 1000) (hep : e.ps.length ≤ 4) :
    Calls Tryz.prog 111 #[.agg #[ve], .agg #[.string e.key, .int .i64 e.tm, pe]] w (LedE w (postL es e)) := by
  have h0 := alloc3 w (.cells #[ve] 68) (.cells #[.string e.key, .int .i64 e.tm, pe] 56) (.cells #[.slice none 0 0] 68)
  have HP := Lib.hid (show PW w.heap.size ve e pe (((w.alloc (.cells #[ve] 68)).alloc (.cells #[.string e.key, .int .i64 e.tm, pe] 56)).alloc (.cells #[.slice none 0 0] 68)) from ⟨h0.1, h0.2.1, h0.2.2⟩)
  have HB0 := Lib.hid (bl_alloc (bl_alloc (bl_alloc (Below.refl w.heap.size w) (.cells #[ve] 68)) (.cells #[.string e.key, .int .i64 e.tm, pe] 56)) (.cells #[.slice none 0 0] 68))
  have HE := Lib.hid h
  have HPS := Lib.hid hp
  have HES := Lib.hid hes
  have hs0 : w.heap.size + 2 < (((w.alloc (.cells #[ve] 68)).alloc (.cells #[.string e.key, .int .i64 e.tm, pe] 56)).alloc (.cells #[.slice none 0 0] 68)).heap.size := by simp
  have HCK := Lib.hid (lcheckR_any e pe _ he (hp.step HB0.out))
  obtain ⟨ao, cap, bi, off, rfl, hl1, hm1, heo⟩ := ent_open h
  have HEO := Lib.hid heo
  unfold maxLen at hm1
  obtain ⟨ao2, cap2, bi2, off2, rfl, hl2, hm2, hpo⟩ := si_open hp
  have HPO := Lib.hid hpo
  unfold maxLen at hm2
  have HOK := Lib.hid he
  clear h hp hes h0 he heo hpo
  obtain ⟨z, hz⟩ : ∃ z, entC e = z := ⟨_, rfl⟩
  rw [hz] at HCK
  by_cases hz0 : z = 0
  case neg =>
    have HR := Lib.hid (post_chk (es := es) (by rw [hz]; exact hz0))
    rw [hz] at HR
    have hz1 : (z != 0) = true := by simpa using hz0
    clear hz hz0
    go_enter Tryz.func111, Tryz.ntmps111
    go_wp2_with (fail)
    with_reducible refine HCK.out.mono ?_
    rintro r w2 ⟨rfl, hb⟩
    have HP2 := Lib.hid (HP.out.step hb hs0)
    have HB2 := Lib.hid (bl_trans HB0.out hb)
    have c0 := (blk1 HP2.out.b0).1
    obtain ⟨c2, cf⟩ := blk1 HP2.out.b2
    have hlt := lt_of_heap HP2.out.b2
    clear hb HCK HP hs0
    go_wp2
    have g5 : (w2.setCell ⟨w.heap.size + 1 + 1, 0, none⟩ (.slice ao es.length cap)).heap[w.heap.size + 1 + 1]? = some (.cells #[.slice ao es.length cap] 68 (0, 0)) := heap_setCell_same _ _ _ _ _ _ HP2.out.b2
    have k5 := (blk1 g5).1
    have b5 : Below w.heap.size w (w2.setCell ⟨w.heap.size + 1 + 1, 0, none⟩ (.slice ao es.length cap)) := bl_set HB2.out _ (by simp only; omega)
    refine bodyPost_ret (v := .tuple #[.agg #[.slice ao es.length cap], .int .i64 z]) (by simp [results, Tryz.results111, go_sem, k5]) rfl ⟨⟨_, by rw [HR.out], ?_⟩, b5⟩
    rw [HR.out]
    exact (HE.out.step b5).keep (fun _ h => ⟨fun e => absurd e (by simpa using hz1), h⟩) (SameOn.refl _ _)
  subst hz0
  have hz1 : ((0 : Int) != 0) = false := rfl
  go_enter Tryz.func111, Tryz.ntmps111
  go_wp2_with (fail)
  with_reducible refine HCK.out.mono ?_
  rintro r w2 ⟨rfl, hb⟩
  have HP2 := Lib.hid (HP.out.step hb hs0)
  have HB2 := Lib.hid (bl_trans HB0.out hb)
  have c0 := (blk1 HP2.out.b0).1
  obtain ⟨d0, d1, d2, -⟩ := blk3 HP2.out.b1
  have hlt := lt_of_heap HP2.out.b2
  clear hb HCK HP hs0
  have HFI := Lib.hid (findR32_any es (.slice ao es.length cap) e.key w2 (HE.out.step HB2.out) (fun x hx => by have := (HES.out x hx).ps; omega))
  unfold FndE at HFI
  obtain ⟨q, hq⟩ : ∃ q, (es.any fun x => decide (x.key = e.key)) = q := ⟨_, rfl⟩
  rw [hq] at HFI
  go_wp2_with (fail)
  with_reducible refine HFI.out.mono ?_
  rintro r w3 ⟨⟨fk, ft, xa, xn, xc, rfl⟩, hb⟩
  have HP3 := Lib.hid (HP2.out.step hb hlt)
  have HB3 := Lib.hid (bl_trans HB2.out hb)
  have hlt3 := lt_of_heap HP3.out.b2
  have hA := bl_alloc (Below.refl w3.heap.size w3) (.cells #[.string fk, .int .i64 ft, .slice xa xn xc] 56)
  have HBA := Lib.hid (bl_trans HB3.out hA)
  have HPA := Lib.hid (HP3.out.step hA hlt3)
  clear hb c0 d0 d1 d2 HFI HP2 HB2 hlt
  cases q with
  | true =>
    have HR := Lib.hid (post_key hz hq)
    clear hz hq hA
    have l2 : w.heap.size + 1 + 1 < w3.heap.size := by omega
    have l0 : w.heap.size < w3.heap.size := by omega
    have c0 := (blk1 HP3.out.b0).1
    obtain ⟨c2, cf⟩ := blk1 HP3.out.b2
    go_wp2
    have g5 := alloc1_old (.cells #[.string fk, .int .i64 ft, .slice xa xn xc] 56) (show (w3.setCell ⟨w.heap.size + 1 + 1, 0, none⟩ (.slice ao es.length cap)).heap[w.heap.size + 1 + 1]? = some (.cells #[.slice ao es.length cap] 68 (0, 0)) from heap_setCell_same _ _ _ _ _ _ HP3.out.b2)
    have k5 := (blk1 g5).1
    have b5 : Below w.heap.size w ((w3.setCell ⟨w.heap.size + 1 + 1, 0, none⟩ (.slice ao es.length cap)).alloc (.cells #[.string fk, .int .i64 ft, .slice xa xn xc] 56)) := bl_alloc (bl_set HB3.out _ (by simp only; omega)) _
    refine bodyPost_ret (v := .tuple #[.agg #[.slice ao es.length cap], .int .i64 9]) (by simp [results, Tryz.results111, go_sem, k5]) rfl ⟨⟨_, by rw [HR.out], ?_⟩, b5⟩
    rw [HR.out]
    exact (HE.out.step b5).keep (fun _ h => ⟨fun e => absurd e (show ¬ (9 : Int) = 0 by decide), h⟩) (SameOn.refl _ _)
  | false =>
    have HZ := Lib.hid hz
    have HQ := Lib.hid hq
    have hltA := lt_of_heap HPA.out.b2
    have hA2 := bl_alloc (Below.refl _ (w3.alloc (.cells #[.string fk, .int .i64 ft, .slice xa xn xc] 56))) (.cells #[.slice none 0 0] 68)
    have g4 := heap_alloc2_new w3 (.cells #[.string fk, .int .i64 ft, .slice xa xn xc] 56) (.cells #[.slice none 0 0] 68)
    have HP5 := Lib.hid (HPA.out.step hA2 hltA)
    have HB5 := Lib.hid (bl_trans HBA.out hA2)
    clear hz hq hA HP3 HB3 hA2 HPA HBA hltA
    go_upto_region 8 with (fail)
    generalize (w3.alloc (.cells #[.string fk, .int .i64 ft, .slice xa xn xc] 56)).alloc (.cells #[.slice none 0 0] 68) = w5 at HP5 HB5 g4 ⊢
    obtain ⟨o, ho⟩ : ∃ o, w3.heap.size + 1 = o := ⟨_, rfl⟩
    rw [ho] at g4 ⊢
    have hltA : w.heap.size + 2 < o := by omega
    have HG5 := Lib.hid g4
    have hlo := lt_of_heap g4
    clear g4 ho
    go_wp2
    go_loopg [10] es.length (fun g i wr => ∃ (k : Nat) (v3 : Value), k + g = es.length ∧ i = .int .i64 k ∧ Hid (PW w.heap.size (.slice ao es.length cap) e (.slice ao2 e.ps.length cap2) wr) ∧ Hid (wr.heap[o]? = some (.cells #[v3] 68 (0, 0))) ∧ Hid (NewL (tEnt 101) 56 (o + 1) wr v3 (es.take k)) ∧ Hid (Below w.heap.size w wr) ∧ o < wr.heap.size)
    case atStart => exact ⟨0, _, by omega, rfl, HP5, HG5, Lib.hid NewL.nil, HB5, hlo⟩
    case round =>
      obtain ⟨k, v3, hk, rfl, HPW, HG, HNW, HBW, hso⟩ := hrel
      obtain ⟨a3, c3, rfl, -⟩ := HNW.out.form
      have htl : (es.take k).length = k := by simp; omega
      rw [htl] at HG HNW
      have c0 := (blk1 HPW.out.b0).1
      by_cases hlt : k < es.length
      · obtain ⟨rfl, -, hbi, hok, hv, hsl, e0, e1, e2⟩ := HEO.out wr (.of_below HBW.out) k hlt
        have k0 : (0 : Int) ≤ (k : Int) := by omega
        have k1 : (k : Int) < (es.length : Int) := by omega
        have hpl := (HES.out _ (List.getElem_mem hlt)).ps
        have HTK := Lib.hid (show es.take (k + 1) = es.take k ++ [es[k]] from List.take_succ_eq_append_getElem hlt)
        generalize es[k] = y at *
        obtain ⟨hva, hvn, hvc, hve⟩ : ∃ a n c, hv = .slice a n c := by
          obtain ⟨a, c, _, _, e, -⟩ := hsl
          exact ⟨a, _, c, e⟩
        subst hve
        have hbw : bi < wr.heap.size := Nat.lt_of_lt_of_le hbi HBW.out.size
        have HOY := Lib.hid hok
        have HSL := Lib.hid (show SlIs tSI (· < wr.heap.size) wr (.slice hva hvn hvc) y.ps from hsl.keep (fun q (hq : q < w.heap.size) => Nat.lt_of_lt_of_le hq HBW.out.size) (SameOn.refl _ _))
        have HK1 := Lib.hid (show ∀ w', Below wr.heap.size wr w' → w'.cell? ⟨o, 0, none⟩ = some (.slice a3 k c3) from fun w' hw' => (blk1 ((hw'.block _ hso).trans HG.out)).1)
        have HL1 := Lib.hid (show ∀ w', Below wr.heap.size wr w' → w'.cell? ⟨w.heap.size, 0, none⟩ = some (.slice (some ⟨bi, off, none⟩) es.length cap) from fun w' hw' => (blk1 ((hw'.block _ (lt_of_heap HPW.out.b0)).trans HPW.out.b0)).1)
        have HX := Lib.hid (show ∀ w', Below wr.heap.size wr w' → w'.cell? ⟨bi, off + k * 3, none⟩ = some (.string y.key) ∧ w'.cell? ⟨bi, off + k * 3 + 1, none⟩ = some (.int .i64 y.tm) ∧ w'.cell? ⟨bi, off + k * 3 + 2, none⟩ = some (.slice hva hvn hvc) from fun w' hw' => ⟨(hw'.cell (p := ⟨bi, off + k * 3, none⟩) hbw).trans e0, (hw'.cell (p := ⟨bi, off + k * 3 + 1, none⟩) hbw).trans e1, (hw'.cell (p := ⟨bi, off + k * 3 + 2, none⟩) hbw).trans e2⟩)
        have HCC := Lib.hid (show ∀ W, Below wr.heap.size wr W → Calls Tryz.prog 137 #[.agg #[.string y.key, .int .i64 y.tm, .slice hva hvn hvc]] W fun e w' => ∃ h', e = .returned (.agg #[.string y.key, .int .i64 y.tm, h']) ∧ NewL tSI 101 W.heap.size w' h' y.ps ∧ Below W.heap.size W w' from fun W hW => copyR_any y _ W (HSL.out.step hW) (by omega))
        clear hsl hok e0 e1 e2
        go_upto_region 11 with (fail)
        clear c0
        refine wp_region_E 9 (fun w' => Below wr.heap.size wr w') (by kernel_rfl) ((by (repeat (first | (with_reducible exact Below.refl _ _) | (with_reducible apply bl_drewN) | (with_reducible apply bl_alloc) | (with_reducible apply Below.drew))); done)) (fun hHeld => ?_)
        refine wpE_take (i := 0) (v := ?_) rfl (by kernel_rfl) (fun _ _ _ h => h) (Or.inl ⟨by kernel_rfl, ?_⟩) (by assumption) ?_
        rotate_left
        focus (intro w9 hS9; (try dsimp only at hS9); go_simp; (try with_reducible rfl))
        (try simp only [List.getElem_toArray, List.getElem_cons_succ, List.getElem_cons_zero])
        (try simp only [Act.put])
        (try simp only [List.setIfInBounds_toArray])
        (repeat (first | simp only [List.set_cons_succ] | simp only [List.set_cons_zero]))
        refine wpE_take (i := 1) (v := ?_) rfl (by kernel_rfl) (fun _ _ _ h => h) (Or.inl ⟨by kernel_rfl, ?_⟩) (by assumption) ?_
        rotate_left
        focus (intro w9 hS9; have z0 := HK1.out w9 hS9; clear hS9; go_simp; (try with_reducible rfl))
        (try simp only [List.getElem_toArray, List.getElem_cons_succ, List.getElem_cons_zero])
        (try simp only [Act.put])
        (try simp only [List.setIfInBounds_toArray])
        (repeat (first | simp only [List.set_cons_succ] | simp only [List.set_cons_zero]))
        refine wpE_take (i := 2) (v := ?_) rfl (by kernel_rfl) (fun _ _ _ h => h) (Or.inl ⟨by kernel_rfl, ?_⟩) (by assumption) ?_
        rotate_left
        focus (intro w9 hS9; (try dsimp only at hS9); go_simp; (try with_reducible rfl))
        (try simp only [List.getElem_toArray, List.getElem_cons_succ, List.getElem_cons_zero])
        (try simp only [Act.put])
        (try simp only [List.setIfInBounds_toArray])
        (repeat (first | simp only [List.set_cons_succ] | simp only [List.set_cons_zero]))
        refine wpE_take (i := 3) (v := ?_) rfl (by kernel_rfl) (fun _ _ _ h => h) (Or.inl ⟨by kernel_rfl, ?_⟩) (by assumption) ?_
        rotate_left
        focus (intro w9 hS9; have z0 := HL1.out w9 hS9; clear hS9; go_simp; (try with_reducible rfl))
        (try simp only [List.getElem_toArray, List.getElem_cons_succ, List.getElem_cons_zero])
        (try simp only [Act.put])
        (try simp only [List.setIfInBounds_toArray])
        (repeat (first | simp only [List.set_cons_succ] | simp only [List.set_cons_zero]))
        refine wpE_take (i := 4) (v := ?_) rfl (by kernel_rfl) (fun _ _ _ h => h) (Or.inl ⟨by kernel_rfl, ?_⟩) (by assumption) ?_
        rotate_left
        focus (intro w9 hS9; (try dsimp only at hS9); go_simp; (try with_reducible rfl))
        (try simp only [List.getElem_toArray, List.getElem_cons_succ, List.getElem_cons_zero])
        (try simp only [Act.put])
        (try simp only [List.setIfInBounds_toArray])
        (repeat (first | simp only [List.set_cons_succ] | simp only [List.set_cons_zero]))
        refine wpE_take (i := 5) (v := ?_) rfl (by kernel_rfl) (fun _ _ _ h => h) (Or.inl ⟨by kernel_rfl, ?_⟩) (by assumption) ?_
        rotate_left
        focus (intro w9 hS9; (try dsimp only at hS9); go_simp; (try with_reducible rfl))
        (try simp only [List.getElem_toArray, List.getElem_cons_succ, List.getElem_cons_zero])
        (try simp only [Act.put])
        (try simp only [List.setIfInBounds_toArray])
        (repeat (first | simp only [List.set_cons_succ] | simp only [List.set_cons_zero]))
        refine wpE_take (i := 6) (v := ?_) rfl (by kernel_rfl) (fun _ _ _ h => h) (Or.inl ⟨by kernel_rfl, ?_⟩) (by assumption) ?_
        rotate_left
        focus (intro w9 hS9; obtain ⟨z0, z1, z2⟩ := HX.out w9 hS9; clear hS9; go_simp; (try with_reducible rfl))
        (try simp only [List.getElem_toArray, List.getElem_cons_succ, List.getElem_cons_zero])
        (try simp only [Act.put])
        (try simp only [List.setIfInBounds_toArray])
        (repeat (first | simp only [List.set_cons_succ] | simp only [List.set_cons_zero]))
        refine wpE_ready (rs := [7]) (by kernel_rfl) (by kernel_rfl) ?_
        refine AllReadyE.cons rfl (fun K hK => ?_) AllReadyE.nil
        go_simp
        with_reducible refine (HCC.out _ (by (repeat (first | (with_reducible exact Below.refl _ _) | (with_reducible apply bl_drewN) | (with_reducible apply bl_alloc) | (with_reducible apply Below.drew))); done)).mono ?_
        rintro r w6 ⟨h', rfl, hn6, hb6⟩
        obtain ⟨a6, c6, rfl, -⟩ := hn6.form
        have HN6 := Lib.hid (show NewL tSI 101 wr.heap.size w6 (.slice a6 y.ps.length c6) y.ps from hn6)
        have HB6 := Lib.hid (show Below wr.heap.size wr w6 from bl_trans (by (repeat (first | (with_reducible exact Below.refl _ _) | (with_reducible apply bl_drewN) | (with_reducible apply bl_alloc) | (with_reducible apply Below.drew))); done) hb6)
        clear hn6 hb6 HCC
        clear hHeld
        refine hK.out _ _ (HB6.out) (fun hHeld => ?_)
        clear hK K
        refine wpE_ready (rs := [8]) (by kernel_rfl) (by kernel_rfl) ?_
        refine AllReadyE.cons rfl (fun K hK => ?_) AllReadyE.nil
        go_simp
        clear hHeld
        refine hK.out _ _ (bl_trans HB6.out (by (repeat (first | (with_reducible exact Below.refl _ _) | (with_reducible apply bl_drewN) | (with_reducible apply bl_alloc) | (with_reducible apply Below.drew))); done)) (fun hHeld => ?_)
        clear hK K
        clear hHeld
        refine wpE_out (by kernel_rfl) ?_
        refine wpAny_ready (rs := [9]) (by kernel_rfl) (by simp) ?_
        refine AllReady.cons rfl (fun K hK => ?_) AllReady.nil
        rw [if_pos (show _ = true by kernel_rfl)]
        have hj6 : (es.take k).length ≤ 1000000 := by omega
        refine wp_append_new (w1 := wr) (.tmp 35) (.tmp 42) 66 rfl slEnt (by go_simp) HNW.out (by first | exact HB6.out | exact bl_trans HB6.out (by (repeat (first | (with_reducible exact Below.refl _ _) | (with_reducible apply bl_drewN) | (with_reducible apply bl_alloc) | (with_reducible apply Below.drew))); done)) (by go_simp) (newEnt HOY.out HN6.out) (by omega) (by unfold maxLen; omega) hso ?_
        intro v7 w7 hn7 hb7
        have hf7 := hn7.form
        rw [List.length_append, htl] at hf7
        obtain ⟨a7, c7, rfl, -⟩ := hf7
        have hbx : Below (o + 1) wr w7 := (HB6.out.mono hso).trans hb7
        have HP7 := Lib.hid (HPW.out.step hbx (by omega))
        have g7 := (hbx.block o (by omega)).trans HG.out
        obtain ⟨r0, rf⟩ := blk1 g7
        have hl7 : o < w7.heap.size := lt_of_heap g7
        have HN7 := Lib.hid hn7
        have HG7 := Lib.hid g7
        have HB7 := Lib.hid (show Below w.heap.size w w7 from HBW.out.trans (hbx.mono (by omega)))
        clear hn7 hb7 hbx g7
        refine hK _ _ ?_
        clear hK K
        (try simp only [List.getElem_toArray, List.getElem_cons_succ, List.getElem_cons_zero])
        (try simp only [Act.put])
        (try simp only [List.setIfInBounds_toArray])
        (repeat (first | simp only [List.set_cons_succ] | simp only [List.set_cons_zero]))
        refine wpAny_ready (rs := [10]) (by kernel_rfl) (by simp) ?_
        refine AllReady.cons rfl (fun K hK => ?_) AllReady.nil
        rw [if_pos (show _ = true by kernel_rfl)]
        go_simp
        refine hK _ _ ?_
        clear hK K
        refine wpAny_ready (rs := [11]) (by kernel_rfl) (by simp) ?_
        refine AllReady.cons rfl (fun K hK => ?_) AllReady.nil
        rw [if_pos (show _ = true by kernel_rfl)]
        go_simp
        refine hK _ _ ?_
        clear hK K
        refine wpAny_done (by kernel_rfl) ?_ _
        go_wp2
        go_roundg (es.length - (k + 1))
        case measure => omega
        case rel => exact ⟨k + 1, _, by omega, by go_num, Lib.hid (HP7.out.put (by simp only; omega) _), Lib.hid (heap_setCell_same _ _ _ _ _ _ HG7.out), Lib.hid (by rw [HTK.out]; exact HN7.out.same (fun j hj => Below.heap_setCell _ _ _ _ (by simp only; omega))), Lib.hid (bl_set HB7.out _ (by simp only; omega)), by simp; omega⟩
      · have hkd : decide ((k : Int) < (es.length : Int)) = false := by simp; omega
        have HNA := Lib.hid (show NewL (tEnt 101) 56 (o + 1) wr (.slice a3 k c3) es by have := HNW.out; rwa [List.take_of_length_le (by omega)] at this)
        obtain rfl : k = es.length := by omega
        have HSL := Lib.hid (HPS.out.step HBW.out)
        have HK1 := Lib.hid (show ∀ w', Below wr.heap.size wr w' → w'.cell? ⟨o, 0, none⟩ = some (.slice a3 es.length c3) from fun w' hw' => (blk1 ((hw'.block _ hso).trans HG.out)).1)
        have HX := Lib.hid (show ∀ w', Below wr.heap.size wr w' → w'.cell? ⟨w.heap.size + 1, 0, none⟩ = some (.string e.key) ∧ w'.cell? ⟨w.heap.size + 1, 1, none⟩ = some (.int .i64 e.tm) ∧ w'.cell? ⟨w.heap.size + 1, 2, none⟩ = some (.slice ao2 e.ps.length cap2) from fun w' hw' => by
          obtain ⟨z0, z1, z2, -⟩ := blk3 ((hw'.block _ (lt_of_heap HPW.out.b1)).trans HPW.out.b1)
          exact ⟨z0, z1, z2⟩)
        have HCC := Lib.hid (show ∀ W, Below wr.heap.size wr W → Calls Tryz.prog 137 #[.agg #[.string e.key, .int .i64 e.tm, .slice ao2 e.ps.length cap2]] W fun r w' => ∃ h', r = .returned (.agg #[.string e.key, .int .i64 e.tm, h']) ∧ NewL tSI 101 W.heap.size w' h' e.ps ∧ Below W.heap.size W w' from fun W hW => copyR_any e _ W (HSL.out.step hW) (by omega))
        clear HNW htl
        go_upto_region 12 with (fail)
        clear c0
        refine wp_region_E 5 (fun w' => Below wr.heap.size wr w') (by kernel_rfl) ((by (repeat (first | (with_reducible exact Below.refl _ _) | (with_reducible apply bl_drewN) | (with_reducible apply bl_alloc) | (with_reducible apply Below.drew))); done)) (fun hHeld => ?_)
        refine wpE_take (i := 0) (v := ?_) rfl (by kernel_rfl) (fun _ _ _ h => h) (Or.inl ⟨by kernel_rfl, ?_⟩) (by assumption) ?_
        rotate_left
        focus (intro w9 hS9; (try dsimp only at hS9); go_simp; (try with_reducible rfl))
        (try simp only [List.getElem_toArray, List.getElem_cons_succ, List.getElem_cons_zero])
        (try simp only [Act.put])
        (try simp only [List.setIfInBounds_toArray])
        (repeat (first | simp only [List.set_cons_succ] | simp only [List.set_cons_zero]))
        refine wpE_take (i := 1) (v := ?_) rfl (by kernel_rfl) (fun _ _ _ h => h) (Or.inl ⟨by kernel_rfl, ?_⟩) (by assumption) ?_
        rotate_left
        focus (intro w9 hS9; have z0 := HK1.out w9 hS9; clear hS9; go_simp; (try with_reducible rfl))
        (try simp only [List.getElem_toArray, List.getElem_cons_succ, List.getElem_cons_zero])
        (try simp only [Act.put])
        (try simp only [List.setIfInBounds_toArray])
        (repeat (first | simp only [List.set_cons_succ] | simp only [List.set_cons_zero]))
        refine wpE_take (i := 2) (v := ?_) rfl (by kernel_rfl) (fun _ _ _ h => h) (Or.inl ⟨by kernel_rfl, ?_⟩) (by assumption) ?_
        rotate_left
        focus (intro w9 hS9; obtain ⟨z0, z1, z2⟩ := HX.out w9 hS9; clear hS9; go_simp; (try with_reducible rfl))
        (try simp only [List.getElem_toArray, List.getElem_cons_succ, List.getElem_cons_zero])
        (try simp only [Act.put])
        (try simp only [List.setIfInBounds_toArray])
        (repeat (first | simp only [List.set_cons_succ] | simp only [List.set_cons_zero]))
        refine wpE_ready (rs := [3]) (by kernel_rfl) (by kernel_rfl) ?_
        refine AllReadyE.cons rfl (fun K hK => ?_) AllReadyE.nil
        go_simp
        with_reducible refine (HCC.out _ (by (repeat (first | (with_reducible exact Below.refl _ _) | (with_reducible apply bl_drewN) | (with_reducible apply bl_alloc) | (with_reducible apply Below.drew))); done)).mono ?_
        rintro r w6 ⟨h', rfl, hn6, hb6⟩
        obtain ⟨a6, c6, rfl, -⟩ := hn6.form
        have HN6 := Lib.hid (show NewL tSI 101 wr.heap.size w6 (.slice a6 e.ps.length c6) e.ps from hn6)
        have HB6 := Lib.hid (show Below wr.heap.size wr w6 from bl_trans (by (repeat (first | (with_reducible exact Below.refl _ _) | (with_reducible apply bl_drewN) | (with_reducible apply bl_alloc) | (with_reducible apply Below.drew))); done) hb6)
        clear hn6 hb6 HCC
        clear hHeld
        refine hK.out _ _ (HB6.out) (fun hHeld => ?_)
        clear hK K
        refine wpE_ready (rs := [4]) (by kernel_rfl) (by kernel_rfl) ?_
        refine AllReadyE.cons rfl (fun K hK => ?_) AllReadyE.nil
        go_simp
        clear hHeld
        refine hK.out _ _ (bl_trans HB6.out (by (repeat (first | (with_reducible exact Below.refl _ _) | (with_reducible apply bl_drewN) | (with_reducible apply bl_alloc) | (with_reducible apply Below.drew))); done)) (fun hHeld => ?_)
        clear hK K
        clear hHeld
        refine wpE_out (by kernel_rfl) ?_
        refine wpAny_ready (rs := [5]) (by kernel_rfl) (by simp) ?_
        refine AllReady.cons rfl (fun K hK => ?_) AllReady.nil
        rw [if_pos (show _ = true by kernel_rfl)]
        have hj6 : es.length ≤ 1000000 := by omega
        refine wp_append_new (w1 := wr) (.tmp 46) (.tmp 49) 66 rfl slEnt (by go_simp) HNA.out (by first | exact HB6.out | exact bl_trans HB6.out (by (repeat (first | (with_reducible exact Below.refl _ _) | (with_reducible apply bl_drewN) | (with_reducible apply bl_alloc) | (with_reducible apply Below.drew))); done)) (by go_simp) (newEnt HOK.out HN6.out) (by omega) (by unfold maxLen; omega) hso ?_
        intro v7 w7 hn7 hb7
        have hf7 := hn7.form
        rw [show (es ++ [e]).length = es.length + 1 by simp] at hf7
        obtain ⟨a7, c7, rfl, -⟩ := hf7
        have hbx : Below (o + 1) wr w7 := (HB6.out.mono hso).trans hb7
        have hp7 := HPW.out.step hbx (by omega)
        have g7 := (hbx.block o (by omega)).trans HG.out
        obtain ⟨r0, rf⟩ := blk1 g7
        have hl7 : o < w7.heap.size := lt_of_heap g7
        have HP8 := Lib.hid (hp7.put (q := ⟨o, 0, none⟩) (by simp only; omega) (.slice a7 (es.length + 1) c7))
        have HG8 := Lib.hid (show (w7.setCell ⟨o, 0, none⟩ (.slice a7 (es.length + 1) c7)).heap[o]? = some (.cells #[.slice a7 (es.length + 1) c7] 68 (0, 0)) from heap_setCell_same _ _ _ _ _ _ g7)
        have HN8 := Lib.hid (show NewL (tEnt 101) 56 (o + 1) (w7.setCell ⟨o, 0, none⟩ (.slice a7 (es.length + 1) c7)) (.slice a7 (es.length + 1) c7) (es ++ [e]) from hn7.same (fun j hj => Below.heap_setCell _ _ _ _ (by simp only; omega)))
        have HB8 := Lib.hid (show Below w.heap.size w (w7.setCell ⟨o, 0, none⟩ (.slice a7 (es.length + 1) c7)) from bl_set (HBW.out.trans (hbx.mono (by omega))) _ (by simp only; omega))
        have hl8 : o < (w7.setCell ⟨o, 0, none⟩ (.slice a7 (es.length + 1) c7)).heap.size := by simpa using hl7
        clear hn7 hb7 hbx g7 hp7
        refine hK _ _ ?_
        clear hK K
        (try simp only [List.getElem_toArray, List.getElem_cons_succ, List.getElem_cons_zero])
        (try simp only [Act.put])
        (try simp only [List.setIfInBounds_toArray])
        (repeat (first | simp only [List.set_cons_succ] | simp only [List.set_cons_zero]))
        refine wpAny_ready (rs := [6]) (by kernel_rfl) (by simp) ?_
        refine AllReady.cons rfl (fun K hK => ?_) AllReady.nil
        rw [if_pos (show _ = true by kernel_rfl)]
        go_simp
        refine hK _ _ ?_
        clear hK K
        refine wpAny_ready (rs := [7]) (by kernel_rfl) (by simp) ?_
        refine AllReady.cons rfl (fun K hK => ?_) AllReady.nil
        rw [if_pos (show _ = true by kernel_rfl)]
        go_simp
        refine hK _ _ ?_
        clear hK K
        refine wpAny_done (by kernel_rfl) ?_ _
        clear r0 rf
        generalize w7.setCell ⟨o, 0, none⟩ (.slice a7 (es.length + 1) c7) = w8 at HP8 HG8 HN8 HB8 hl8 ⊢
        have HLK := Lib.hid (show LOk 4004 (es ++ [e]) from by
          have h1 := LOk.of HES.out hl
          have h2 := (ent_facts HZ.out).2.2.2.1
          refine ⟨?_, fun x hx => ?_⟩
          · have := h1.len
            unfold posL at this ⊢
            rw [List.flatMap_append, List.length_append]
            simp only [List.flatMap_cons, List.flatMap_nil, List.append_nil]
            omega
          · unfold posL at hx
            rw [List.flatMap_append] at hx
            rcases List.mem_append.1 hx with hx | hx
            · exact h1.fit x hx
            · exact h2 x (by simpa using hx))
        clear HX HK1 HSL HNA HG HPW HBW hso
        go_wp2
        go_loopg [11] e.ps.length (fun g i wr => ∃ j : Nat, j + g = e.ps.length ∧ i = .int .i64 j ∧ Hid (∀ q (hq : q < e.ps.length), q < j → fitsM (balL e.ps[q].s (es ++ [e])) = true) ∧ Hid (Below w8.heap.size w8 wr))
        case atStart => exact ⟨0, by omega, rfl, Lib.hid (fun q _ h => by omega), Lib.hid (Below.refl _ _)⟩
        case round =>
          obtain ⟨j, hj, rfl, HT, HBX⟩ := hrel
          have HPX := Lib.hid (HP8.out.step HBX.out (by omega))
          have HBY := Lib.hid (HB8.out.trans (HBX.out.mono HB8.out.size))
          have HGX := Lib.hid ((HBX.out.block o hl8).trans HG8.out)
          obtain ⟨-, -, d2, -⟩ := blk3 HPX.out.b1
          have d2 : wr.cell? ⟨w.heap.size + 1, 2, none⟩ = some (.slice ao2 e.ps.length cap2) := d2
          by_cases hlt2 : j < e.ps.length
          · obtain ⟨rfl, -, hbi2, hop, e0, e1⟩ := HPO.out wr (.of_below HBY.out) j hlt2
            have j0 : (0 : Int) ≤ (j : Int) := by omega
            have j1 : (j : Int) < (e.ps.length : Int) := by omega
            have HG1 := Lib.hid (show ∀ q (hq : q < e.ps.length), q = j → e.ps[q] = e.ps[j] by rintro q hq rfl; rfl)
            have HMM := Lib.hid (List.getElem_mem hlt2)
            generalize e.ps[j] = p at *
            obtain ⟨xs, xn⟩ := p
            simp only at e0 e1
            have hbw : bi2 < wr.heap.size := Nat.lt_of_lt_of_le hbi2 HBY.out.size
            have HK1 := Lib.hid (show ∀ w', Below wr.heap.size wr w' → w'.cell? ⟨o, 0, none⟩ = some (.slice a7 (es.length + 1) c7) from fun w' hw' => (blk1 ((hw'.block _ (lt_of_heap HGX.out)).trans HGX.out)).1)
            have HK2 := Lib.hid (show ∀ w', Below wr.heap.size wr w' → w'.cell? ⟨w.heap.size + 1, 2, none⟩ = some (.slice (some ⟨bi2, off2, none⟩) e.ps.length cap2) from fun w' hw' => (blk3 ((hw'.block _ (lt_of_heap HPX.out.b1)).trans HPX.out.b1)).2.2.1)
            have HK3 := Lib.hid (show ∀ w', Below wr.heap.size wr w' → w'.cell? ⟨bi2, off2 + j * 2, none⟩ = some (.string xs) from fun w' hw' => (hw'.cell (p := ⟨bi2, off2 + j * 2, none⟩) hbw).trans e0)
            have HSN := Lib.hid (HN8.out.sl'.keep (S' := (· < wr.heap.size)) (fun q (hq : q < w8.heap.size) => Nat.lt_of_lt_of_le hq HBX.out.size) (.of_below HBX.out))
            have HBL := Lib.hid (show ∀ W, Below wr.heap.size wr W → Calls Tryz.prog 26 #[.agg #[.slice a7 (es.length + 1) c7], .string xs] W fun r w' => r = .returned (.int .i64 (balL xs (es ++ [e]))) ∧ Below W.heap.size W w' from fun W hW => balR_any (es ++ [e]) _ xs W (HSN.out.step hW) HLK.out)
            obtain ⟨bz, hbz⟩ : ∃ bz, balL xs (es ++ [e]) = bz := ⟨_, rfl⟩
            rw [hbz] at HBL
            have HFT := Lib.hid (fun W => fits32_any bz W)
            obtain ⟨f, hf⟩ : ∃ f, fitsM bz = f := ⟨_, rfl⟩
            rw [hf] at HFT
            have HFE := Lib.hid (show fitsM (balL xs (es ++ [e])) = f by rw [hbz, hf])
            clear hbz hf e0 e1
            go_upto_region 16 with (fail)
            clear d2
            refine wp_region_E 9 (fun w' => Below wr.heap.size wr w') (by kernel_rfl) ((by (repeat (first | (with_reducible exact Below.refl _ _) | (with_reducible apply bl_drewN) | (with_reducible apply bl_alloc) | (with_reducible apply Below.drew))); done)) (fun hHeld => ?_)
            refine wpE_take (i := 0) (v := ?_) rfl (by kernel_rfl) (fun _ _ _ h => h) (Or.inl ⟨by kernel_rfl, ?_⟩) (by assumption) ?_
            rotate_left
            focus (intro w9 hS9; have z0 := HK1.out w9 hS9; clear hS9; go_simp; (try with_reducible rfl))
            (try simp only [List.getElem_toArray, List.getElem_cons_succ, List.getElem_cons_zero])
            (try simp only [Act.put])
            (try simp only [List.setIfInBounds_toArray])
            (repeat (first | simp only [List.set_cons_succ] | simp only [List.set_cons_zero]))
            refine wpE_take (i := 1) (v := ?_) rfl (by kernel_rfl) (fun _ _ _ h => h) (Or.inl ⟨by kernel_rfl, ?_⟩) (by assumption) ?_
            rotate_left
            focus (intro w9 hS9; (try dsimp only at hS9); go_simp; (try with_reducible rfl))
            (try simp only [List.getElem_toArray, List.getElem_cons_succ, List.getElem_cons_zero])
            (try simp only [Act.put])
            (try simp only [List.setIfInBounds_toArray])
            (repeat (first | simp only [List.set_cons_succ] | simp only [List.set_cons_zero]))
            refine wpE_take (i := 2) (v := ?_) rfl (by kernel_rfl) (fun _ _ _ h => h) (Or.inl ⟨by kernel_rfl, ?_⟩) (by assumption) ?_
            rotate_left
            focus (intro w9 hS9; have z0 := HK2.out w9 hS9; clear hS9; go_simp; (try with_reducible rfl))
            (try simp only [List.getElem_toArray, List.getElem_cons_succ, List.getElem_cons_zero])
            (try simp only [Act.put])
            (try simp only [List.setIfInBounds_toArray])
            (repeat (first | simp only [List.set_cons_succ] | simp only [List.set_cons_zero]))
            refine wpE_take (i := 3) (v := ?_) rfl (by kernel_rfl) (fun _ _ _ h => h) (Or.inl ⟨by kernel_rfl, ?_⟩) (by assumption) ?_
            rotate_left
            focus (intro w9 hS9; (try dsimp only at hS9); go_simp; (try with_reducible rfl))
            (try simp only [List.getElem_toArray, List.getElem_cons_succ, List.getElem_cons_zero])
            (try simp only [Act.put])
            (try simp only [List.setIfInBounds_toArray])
            (repeat (first | simp only [List.set_cons_succ] | simp only [List.set_cons_zero]))
            refine wpE_take (i := 4) (v := ?_) rfl (by kernel_rfl) (fun _ _ _ h => h) (Or.inl ⟨by kernel_rfl, ?_⟩) (by assumption) ?_
            rotate_left
            focus (intro w9 hS9; (try dsimp only at hS9); go_simp; (try with_reducible rfl))
            (try simp only [List.getElem_toArray, List.getElem_cons_succ, List.getElem_cons_zero])
            (try simp only [Act.put])
            (try simp only [List.setIfInBounds_toArray])
            (repeat (first | simp only [List.set_cons_succ] | simp only [List.set_cons_zero]))
            refine wpE_take (i := 5) (v := ?_) rfl (by kernel_rfl) (fun _ _ _ h => h) (Or.inl ⟨by kernel_rfl, ?_⟩) (by assumption) ?_
            rotate_left
            focus (intro w9 hS9; (try dsimp only at hS9); go_simp; (try with_reducible rfl))
            (try simp only [List.getElem_toArray, List.getElem_cons_succ, List.getElem_cons_zero])
            (try simp only [Act.put])
            (try simp only [List.setIfInBounds_toArray])
            (repeat (first | simp only [List.set_cons_succ] | simp only [List.set_cons_zero]))
            refine wpE_take (i := 6) (v := ?_) rfl (by kernel_rfl) (fun _ _ _ h => h) (Or.inl ⟨by kernel_rfl, ?_⟩) (by assumption) ?_
            rotate_left
            focus (intro w9 hS9; have z0 := HK3.out w9 hS9; clear hS9; go_simp; (try with_reducible rfl))
            (try simp only [List.getElem_toArray, List.getElem_cons_succ, List.getElem_cons_zero])
            (try simp only [Act.put])
            (try simp only [List.setIfInBounds_toArray])
            (repeat (first | simp only [List.set_cons_succ] | simp only [List.set_cons_zero]))
            refine wpE_ready (rs := [7]) (by kernel_rfl) (by kernel_rfl) ?_
            refine AllReadyE.cons rfl (fun K hK => ?_) AllReadyE.nil
            go_simp
            with_reducible refine (HBL.out _ (by (repeat (first | (with_reducible exact Below.refl _ _) | (with_reducible apply bl_drewN) | (with_reducible apply bl_alloc) | (with_reducible apply Below.drew))); done)).mono ?_
            rintro r w9 ⟨rfl, hb9⟩
            have HB9 := Lib.hid (show Below wr.heap.size wr w9 from bl_trans (by (repeat (first | (with_reducible exact Below.refl _ _) | (with_reducible apply bl_drewN) | (with_reducible apply bl_alloc) | (with_reducible apply Below.drew))); done) hb9)
            clear hb9 HBL
            clear hHeld
            refine hK.out _ _ (HB9.out) (fun hHeld => ?_)
            clear hK K
            refine wpE_ready (rs := [8]) (by kernel_rfl) (by kernel_rfl) ?_
            refine AllReadyE.cons rfl (fun K hK => ?_) AllReadyE.nil
            go_simp
            with_reducible refine (HFT.out _).mono ?_
            rintro r w10 ⟨rfl, rfl⟩
            clear hHeld
            refine hK.out _ _ (HB9.out) (fun hHeld => ?_)
            clear hK K
            clear hHeld
            refine wpE_out (by kernel_rfl) ?_
            refine wpAny_ready (rs := [9]) (by kernel_rfl) (by simp) ?_
            refine AllReady.cons rfl (fun K hK => ?_) AllReady.nil
            rw [if_pos (show _ = true by kernel_rfl)]
            go_simp
            refine hK _ _ ?_
            clear hK K
            refine wpAny_done (by kernel_rfl) ?_ _
            cases f with
            | true =>
              go_wp2
              go_roundg (e.ps.length - (j + 1))
              case measure => omega
              case rel => exact ⟨j + 1, by omega, by go_num, Lib.hid (fun q hq h => by
                by_cases e : q = j
                · rw [HG1.out q hq e]; exact HFE.out
                · exact HT.out q hq (by omega)), Lib.hid (bl_trans HBX.out HB9.out)⟩
            | false =>
              have HR := Lib.hid (post_bad HZ.out HQ.out (by
                rw [List.all_eq_false]
                exact ⟨_, HMM.out, by rw [← balL_snoc, HFE.out]; decide⟩))
              have HP9 := Lib.hid (HPX.out.step HB9.out (by have := lt_of_heap HPX.out.b2; omega))
              have HBZ := Lib.hid (bl_trans HBY.out HB9.out)
              have c0 := (blk1 HP9.out.b0).1
              obtain ⟨c2, cf⟩ := blk1 HP9.out.b2
              have c2 : w9.cell? ⟨w.heap.size + 1 + 1, 0, none⟩ = some (.slice none 0 0) := c2
              have cf : ∀ j, w9.frozen? ⟨w.heap.size + 1 + 1, j, none⟩ = false := cf
              have hl9 := lt_of_heap HP9.out.b2
              go_wp2
              have g5 : (w9.setCell ⟨w.heap.size + 1 + 1, 0, none⟩ (.slice ao es.length cap)).heap[w.heap.size + 1 + 1]? = some (.cells #[.slice ao es.length cap] 68 (0, 0)) := heap_setCell_same _ _ _ _ _ _ HP9.out.b2
              have k5 := (blk1 g5).1
              have b5 : Below w.heap.size w (w9.setCell ⟨w.heap.size + 1 + 1, 0, none⟩ (.slice ao es.length cap)) := bl_set HBZ.out _ (by simp only; omega)
              refine bodyPost_ret (v := .tuple #[.agg #[.slice ao es.length cap], .int .i64 13]) (by simp [results, Tryz.results111, go_sem, k5]) rfl ⟨⟨_, by rw [HR.out], ?_⟩, b5⟩
              rw [HR.out]
              exact (HE.out.step b5).keep (fun _ h => ⟨fun e => absurd e (show ¬ (13 : Int) = 0 by decide), h⟩) (SameOn.refl _ _)
          · have hjd : decide ((j : Int) < (e.ps.length : Int)) = false := by simp; omega
            have HR := Lib.hid (post_ok HZ.out HQ.out (by
              rw [List.all_eq_true]
              intro p hp
              obtain ⟨q, hq, rfl⟩ := List.getElem_of_mem hp
              rw [← balL_snoc]
              exact HT.out q hq (by omega)))
            have k0 := (blk1 HGX.out).1
            obtain ⟨c2, cf⟩ := blk1 HPX.out.b2
            have c2 : wr.cell? ⟨w.heap.size + 1 + 1, 0, none⟩ = some (.slice none 0 0) := c2
            have cf : ∀ j, wr.frozen? ⟨w.heap.size + 1 + 1, j, none⟩ = false := cf
            have hl9 := lt_of_heap HPX.out.b2
            go_wp2
            have g5 : (wr.setCell ⟨w.heap.size + 1 + 1, 0, none⟩ (.slice a7 (es.length + 1) c7)).heap[w.heap.size + 1 + 1]? = some (.cells #[.slice a7 (es.length + 1) c7] 68 (0, 0)) := heap_setCell_same _ _ _ _ _ _ HPX.out.b2
            have k5 := (blk1 g5).1
            have b5 : Below w.heap.size w (wr.setCell ⟨w.heap.size + 1 + 1, 0, none⟩ (.slice a7 (es.length + 1) c7)) := bl_set HBY.out _ (by simp only; omega)
            refine bodyPost_ret (v := .tuple #[.agg #[.slice a7 (es.length + 1) c7], .int .i64 0]) (by simp [results, Tryz.results111, go_sem, k5]) rfl ⟨⟨_, by rw [HR.out], ?_⟩, b5⟩
            rw [HR.out]
            exact HN8.out.sl.keep (fun q hq => ⟨fun _ => by omega, by have := HBX.out.size; simp; omega⟩) (fun q hq => (Below.heap_setCell _ _ _ _ (by simp only; omega)).trans (HBX.out.block q hq.2))
end Go.Proofs.YtifcelebfagjbaaGreatDoor
