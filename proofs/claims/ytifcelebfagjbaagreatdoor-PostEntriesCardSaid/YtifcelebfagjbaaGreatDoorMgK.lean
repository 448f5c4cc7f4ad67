/-
  A region that draws its order: loads are taken first as in the kit's held law, but the condition on the world need hold only behind the first n operations: what stands from n on (a store at the end) waits for all of them. No program in sight.
-/
import Derived.Deep.RegionHeld3
import Derived.StillTailTactics
import Derived.Test.YtifcelebfagjbaaGreatDoorLib
import Derived.Test.YtifcelebfagjbaaGreatDoorMgH
import Derived.Test.YtifcelebfagjbaaGreatDoorMgJ
import Derived.Test.YtifcelebfagjbaaGreatDoorMgG
namespace Go.Tw
open Go.RowKit
section
variable {P : Program} {ops : Array Oper} {Q : Exit → Act → World → Prop} {md : Region.Mode} {S : World → Prop} {n : Nat}
theorem wanted_then {A B : Prop} (hA : A) : if true = true then A else B := by rw [if_pos rfl]; exact hA
theorem wanted_else {A B : Prop} (hB : B) : if false = true then A else B := by rw [if_neg (by decide)]; exact hB
/-- whatever order is picked, and S holds behind each of the first n -/
def wpAnyE (P : Program) (md : Region.Mode) (ops : Array Oper) (Q : Exit → Act → World → Prop) (n : Nat) (S : World → Prop) : Nat → Array Bool → Act → World → Prop
  | 0, listed, a, w => Region.ready md ops listed = [] ∧ Q .normal a w
  | fuel + 1, listed, a, w =>
    (Region.ready md ops listed = [] → Q .normal a w) ∧
    ∀ i ∈ Region.ready md ops listed, wpOp P ops Q i (fun a' w' => (i < n → S w') ∧ wpAnyE P md ops Q n S fuel (listed.setIfInBounds i true) a' w') a w
theorem wpAny_of_E : ∀ (fuel : Nat) (listed : Array Bool) (a : Act) (w : World), wpAnyE P md ops Q n S fuel listed a w → wpAny P md ops Q fuel listed a w
  | 0, _, _, _, h => h
  | fuel + 1, _, _, _, h => ⟨h.1, fun i hi => wpOp_mono (fun a' w' h' => wpAny_of_E fuel _ a' w' h'.2) (h.2 i hi)⟩
theorem wpAnyE_first {i : Nat} {oi : Oper} {v : Value} (hi : ops[i]? = some oi) (hin : i < n) (hn : n < ops.size) (hs : Region.sinkB md ops n = true) (hc : Region.chainB md ops n = true) (hsel : ∀ (j : Nat) (o : Oper) cs b, ops[j]? = some o → o.op ≠ .select cs b)
    (hQ : ∀ c a w, Q (.panic c) (a.put oi.dst v) w → Q (.panic c) a w) :
    ∀ (fuel : Nat) (listed : Array Bool) (a : Act) (w : World), HeadInv md ops n listed →
      (∀ j oj, ops[j]? = some oj → j ≠ i → listed.getD j true = false → (∀ e ∈ oj.after, Region.binds md e = true → e.on ≠ i) → oi.apart ops oj = true) →
      i ∈ Region.ready md ops listed → YieldsIf P ops S oi v a → S w →
      wpAnyE P md ops Q n S fuel (listed.setIfInBounds i true) (a.put oi.dst v) w → wpAnyE P md ops Q n S (fuel + 1) listed a w := by
  intro fuel
  induction fuel with
  | zero =>
    intro listed a w inv _ hr hy hS H
    refine ⟨fun h => (by rw [h] at hr; cases hr), fun j hj => ?_⟩
    by_cases hji : j = i
    · subst hji; exact hy.wpOp hi hS ⟨fun _ => hS, H⟩
    · have := ready_mono hj hji
      rw [H.1] at this
      cases this
  | succ fuel ih =>
    intro listed a w inv hfree hr hy hS H
    refine ⟨fun h => (by rw [h] at hr; cases hr), fun j hj => ?_⟩
    by_cases hji : j = i
    · subst hji; exact hy.wpOp hi hS ⟨fun _ => hS, H⟩
    · have h1 := H.2 j (ready_mono hj hji)
      obtain ⟨hjun, oj, hoj, hall⟩ := mem_ready.1 hj
      have hun := (mem_ready.1 hr).1
      have hjn : j < n := Nat.lt_of_not_le fun h => tail_waits hs hc hn inv _ i rfl hin hun j h hj
      have hnot : ∀ e ∈ oj.after, Region.binds md e = true → e.on ≠ i := fun e he hb heq => by
        have h1 := hall e he hb
        rw [heq, getD_both hun] at h1
        cases h1
      have h2 := wpOp_putIf hoj (hfree j oj hoj hji hjun hnot) (fun cs b => hsel i oi cs b hi) (fun cs b => hsel j oj cs b hoj) hQ hy h1
      have hfree' : ∀ k ok, ops[k]? = some ok → k ≠ i → (listed.setIfInBounds j true).getD k true = false →
          (∀ e ∈ ok.after, Region.binds md e = true → e.on ≠ i) → oi.apart ops ok = true := fun k ok hk hki hun hno => by
        refine hfree k ok hk hki ?_ hno
        by_cases hjk : j = k
        · subst hjk; exact hjun
        · rw [getD_set_ne true hjk] at hun; exact hun
      refine wpOp_mono (fun a' w' h3 => ⟨fun _ => h3.2.1 hjn, ih (listed.setIfInBounds j true) a' w' (inv.set hj hjn) hfree' (ready_mono hr (Ne.symm hji)) h3.1 (h3.2.1 hjn) ?_⟩) h2
      rw [Array.setIfInBounds_comm _ _ hji]
      exact h3.2.2
theorem yieldsIf_then {o : Oper} {v : Value} {a : Act} (h : if Region.wanted o (yielded ops a.tmps) = true then (∀ w, S w → (execOp a.eval o).run P w = .ok (.value v) w) else v = undef) : YieldsIf P ops S o v a := by
  unfold YieldsIf
  by_cases hw : Region.wanted o (yielded ops a.tmps) = true
  · rw [if_pos hw] at h; exact .inl ⟨hw, h⟩
  · rw [if_neg hw] at h; exact .inr ⟨by simpa using hw, h⟩
/-- the walk's goal: what has come up is told by the list alone -/
def wpE (P : Program) (md : Region.Mode) (ops : Array Oper) (Q : Exit → Act → World → Prop) (n : Nat) (S : World → Prop) (fuel : Nat) (listed : Array Bool) (a : Act) (w : World) : Prop := HeadInv md ops n listed → wpAnyE P md ops Q n S fuel listed a w
theorem wpE_take {i : Nat} {oi : Oper} {v : Value} {fuel : Nat} {listed : Array Bool} {a : Act} {w : World} (hi : ops[i]? = some oi) (hB : (decide (i < n) && decide (n < ops.size) && Region.sinkB md ops n && Region.chainB md ops n && Region.noSelect ops && Region.free md ops listed i && (Region.ready md ops listed).contains i) = true)
    (hQ : ∀ c a w, Q (.panic c) (a.put oi.dst v) w → Q (.panic c) a w) (hy : YieldsIf P ops S oi v a) (hS : S w)
    (h : wpE P md ops Q n S fuel (listed.setIfInBounds i true) (a.put oi.dst v) w) : wpE P md ops Q n S (fuel + 1) listed a w := fun inv => by
  simp only [Bool.and_eq_true, decide_eq_true_eq] at hB
  obtain ⟨⟨⟨⟨⟨⟨h1, h2⟩, h3⟩, h4⟩, h5⟩, h6⟩, h7⟩ := hB
  have hr : i ∈ Region.ready md ops listed := by simpa using h7
  exact wpAnyE_first hi h1 h2 h3 h4 (Region.noSelect_spec h5) hQ fuel listed a w inv (Region.free_spec hi h6) hr hy hS (h (inv.set hr h1))
def AllReadyE (P : Program) (md : Region.Mode) (ops : Array Oper) (Q : Exit → Act → World → Prop) (n : Nat) (S : World → Prop) (fuel : Nat) (listed : Array Bool) (a : Act) (w : World) (rs : List Nat) : Prop :=
  ∀ i ∈ rs, wpOp P ops Q i (fun a' w' => S w' ∧ wpE P md ops Q n S fuel (listed.setIfInBounds i true) a' w') a w
theorem AllReadyE.nil {fuel : Nat} {listed : Array Bool} {a : Act} {w : World} : AllReadyE P md ops Q n S fuel listed a w [] := fun _ h => by cases h
theorem AllReadyE.cons {fuel : Nat} {listed : Array Bool} {a : Act} {w : World} {i : Nat} {o : Oper} {rs : List Nat} (ho : ops[i]? = some o)
    (h : ∀ K' : Act → World → Prop, Shut (∀ a w, S w → (S w → wpE P md ops Q n S fuel (listed.setIfInBounds i true) a w) → K' a w) → if Region.wanted o (yielded ops a.tmps) = true then Oper.wp P o a w K' Q else K' (a.put o.dst undef) w)
    (hs : AllReadyE P md ops Q n S fuel listed a w rs) : AllReadyE P md ops Q n S fuel listed a w (i :: rs) := fun j hj => by
  rcases List.mem_cons.1 hj with rfl | hj
  · exact wpOp_step ho (fun K' hK => h K' (fun a w hS hW => hK a w ⟨hS, hW hS⟩))
  · exact hs j hj
theorem wpE_ready {rs : List Nat} {fuel : Nat} {listed : Array Bool} {a : Act} {w : World} (hr : Region.ready md ops listed = rs) (hB : (rs.all (fun i => decide (i < n)) && !rs.isEmpty) = true)
    (h : AllReadyE P md ops Q n S fuel listed a w rs) : wpE P md ops Q n S (fuel + 1) listed a w := fun inv => by
  simp only [Bool.and_eq_true, List.all_eq_true, decide_eq_true_eq] at hB
  refine ⟨fun h0 => ?_, fun i hi => ?_⟩
  · rw [h0] at hr; rw [← hr] at hB; simp at hB
  · have hi' : i ∈ rs := hr ▸ hi
    exact wpOp_mono (fun a' w' h' => ⟨fun _ => h'.1, h'.2 (inv.set hi (hB.1 i hi'))⟩) (h i hi')
/-- the first n have come up -/
theorem wpE_out {fuel : Nat} {listed : Array Bool} {a : Act} {w : World} (hB : (List.range n).all (fun i => listed.getD i false) = true) (h : wpAny P md ops Q fuel listed a w) : wpE P md ops Q n S fuel listed a w := fun inv => by
  clear inv
  revert h hB
  induction fuel generalizing listed a w with
  | zero => intro _ h; exact h
  | succ fuel ih =>
    intro hB h
    refine ⟨h.1, fun i hi => wpOp_mono (fun a' w' h' => ⟨fun hin => ?_, ih ?_ h'⟩) (h.2 i hi)⟩
    · have hu := (mem_ready.1 hi).1
      have := List.all_eq_true.1 hB i (List.mem_range.2 hin)
      rw [getD_both hu] at this
      cases this
    · refine List.all_eq_true.2 fun k hk => ?_
      have := List.all_eq_true.1 hB k hk
      by_cases e : i = k
      · subst e
        exact getD_set_true this
      · rw [getD_set_ne false e]; exact this
theorem wp_region_E {id : Nat} {a : Act} {w : World} (n : Nat) (S : World → Prop) (hm : P.follows .mixedOrders = true) (hS : S w.drew)
    (h : S w.drew → wpE P .any ops Q n S ops.size (Array.replicate ops.size false) a w.drew) : (Code.region id ops true).wp P Q a w :=
  wp_region_any hm (wpAny_of_E _ _ _ _ (h hS ⟨by simp, fun j oj _ hl => (by rw [getD_replicate_false] at hl; cases hl), fun t _ ht => getD_in (by simpa using ht) (getD_replicate_false _ _)⟩))
end
end Go.Tw
/-
  Layer 37 (post): clone of books.
-/
namespace Go.Tw
theorem alloc3 (w : World) (o1 o2 o3 : Obj) : (((w.alloc o1).alloc o2).alloc o3).heap[w.heap.size]? = some o1 ∧ (((w.alloc o1).alloc o2).alloc o3).heap[w.heap.size + 1]? = some o2 ∧ (((w.alloc o1).alloc o2).alloc o3).heap[w.heap.size + 2]? = some o3 := by
  refine ⟨(RowKit.Below.heap_alloc _ _ _ (by simp; omega)).trans (heap_alloc2_old w _ _), (RowKit.Below.heap_alloc _ _ _ (by simp)).trans (heap_alloc2_new w _ _), ?_⟩
  have := heap_alloc_new ((w.alloc o1).alloc o2) o3
  simpa using this
end Go.Tw
namespace Go.Proofs.YtifcelebfagjbaaGreatDoor
open Go.RowKit Go.Tw Go.Tw.Ord Go.Tw.Po Go.Sort
/-- the boxes of clone: the books, the result, the copy -/
structure CW (n : Nat) (a b c d : Value) (wr : World) : Prop where
  b0 : wr.heap[n]? = some (.cells #[a, b] 70 (0, 0))
  b1 : wr.heap[n + 1]? = some (.cells #[.slice none 0 0, .slice none 0 0] 70 (0, 0))
  b2 : wr.heap[n + 2]? = some (.cells #[c, d] 70 (0, 0))
theorem CW.step {n B : Nat} {a b c d : Value} {w w' : World} (h : CW n a b c d w) (hb : Below B w w') (hB : n + 2 < B) : CW n a b c d w' :=
  ⟨(hb.block _ (by omega)).trans h.b0, (hb.block _ (by omega)).trans h.b1, (hb.block _ (by omega)).trans h.b2⟩
theorem CW.put {n : Nat} {a b c c' d : Value} {w : World} (h : CW n a b c d w) : CW n a b c' d (w.setCell ⟨n + 1 + 1, 0, none⟩ c') :=
  ⟨(Below.heap_setCell _ _ _ _ (by simp; omega)).trans h.b0, (Below.heap_setCell _ _ _ _ (by simp)).trans h.b1, heap_setCell_same _ _ _ _ _ _ h.b2⟩
theorem CW.put1 {n : Nat} {a b c d d' : Value} {w : World} (h : CW n a b c d w) : CW n a b c d' (w.setCell ⟨n + 1 + 1, 1, none⟩ d') :=
  ⟨(Below.heap_setCell _ _ _ _ (by simp; omega)).trans h.b0, (Below.heap_setCell _ _ _ _ (by simp)).trans h.b1, heap_setCell_same _ _ _ _ _ _ h.b2⟩
set_option maxRecDepth 100000 in
set_option maxHeartbeats 4000000 in
theorem bclone_any (le : List Ent) (ld : List Chg) (ve vd : Value) (w : World) (he : SlIs (tEnt 101) (· < w.heap.size) w ve le) (hd : SlIs (tChg 140) (· < w.heap.size) w vd ld)
    (hle : le.length ≤ 1000000) (hld : ld.length ≤ 1000000) (hps : ∀ e ∈ le, e.ps.length ≤ 1000000) (hls : ∀ x ∈ ld, x.ls.length ≤ 1000000) :
    Calls Tryz.prog 51 #[.agg #[ve, vd]] w fun e w' => ∃ ve' vd' m, e = .returned (.agg #[ve', vd']) ∧ w.heap.size ≤ m ∧ m ≤ w'.heap.size ∧ SlIs (tEnt 101) (fun k => w.heap.size ≤ k ∧ k < m) w' ve' le ∧ NewL (tChg 140) 49 m w' vd' ld ∧ Below w.heap.size w w' := by
  have h0 := alloc3 w (.cells #[ve, vd] 70) (.cells #[.slice none 0 0, .slice none 0 0] 70) (.cells #[.slice none 0 0, .slice none 0 0] 70)
  have HC := Lib.hid (show CW w.heap.size ve vd (.slice none 0 0) (.slice none 0 0) (((w.alloc (.cells #[ve, vd] 70)).alloc (.cells #[.slice none 0 0, .slice none 0 0] 70)).alloc (.cells #[.slice none 0 0, .slice none 0 0] 70)) from ⟨h0.1, h0.2.1, h0.2.2⟩)
  have HB0 := Lib.hid (bl_alloc (bl_alloc (bl_alloc (Below.refl w.heap.size w) (.cells #[ve, vd] 70)) (.cells #[.slice none 0 0, .slice none 0 0] 70)) (.cells #[.slice none 0 0, .slice none 0 0] 70))
  have HLS := Lib.hid hls
  have HPS := Lib.hid hps
  obtain ⟨ao, cap, bi, off, rfl, hl, hm, ho⟩ := ent_open he
  obtain ⟨ao2, cap2, bi2, off2, rfl, hl2, hm2, ho2⟩ := chg_open hd
  have HO := Lib.hid ho
  have HO2 := Lib.hid ho2
  unfold maxLen at hm hm2
  clear he hd ho ho2 h0 hls hps
  go_enter Tryz.func51, Tryz.ntmps51
  go_wp2
  go_loopg [12] le.length (fun g i wr => ∃ (k : Nat) (v3 : Value), k + g = le.length ∧ i = .int .i64 k ∧ CW w.heap.size (.slice ao le.length cap) (.slice ao2 ld.length cap2) v3 (.slice none 0 0) wr ∧ NewL (tEnt 101) 56 (w.heap.size + 3) wr v3 (le.take k) ∧ Below w.heap.size w wr ∧ w.heap.size + 3 ≤ wr.heap.size)
  case atStart => exact ⟨0, _, by omega, rfl, HC.out, NewL.nil, HB0.out, by simp⟩
  case round =>
    obtain ⟨k, v3, hk, rfl, hc, hn, hb1, hsz⟩ := hrel
    have HN := Lib.hid hn
    have HCW := Lib.hid hc
    have HB1 := Lib.hid hb1
    obtain ⟨a3, c3, rfl, hc31, hc32⟩ := hn.form
    have htl : (le.take k).length = k := by simp; omega
    rw [htl] at HN HCW hc
    obtain ⟨c0, c1, -⟩ := blk2 hc.b0
    obtain ⟨f0, f1, ff⟩ := blk2 hc.b2
    clear hn hc hc31 hc32
    by_cases hlt : k < le.length
    · obtain ⟨rfl, hbw, hbi, hok, hv, hsl, d0, d1, d2⟩ := HO.out wr (.of_below hb1) k hlt
      have hll := HPS.out _ (List.getElem_mem hlt)
      have HG1 := Lib.hid (show le.take (k + 1) = le.take k ++ [le[k]] from List.take_succ_eq_append_getElem hlt)
      have k0 : (0 : Int) ≤ (k : Int) := by omega
      have k1 : (k : Int) < (le.length : Int) := by omega
      generalize le[k] = y at *
      obtain ⟨hva, hvn, hvc, hve⟩ : ∃ a n c, hv = .slice a n c := by
        obtain ⟨a, c, _, _, e, -⟩ := hsl
        exact ⟨a, _, c, e⟩
      subst hve
      have b1 := bl_alloc (Below.refl wr.heap.size wr) (.cells #[.string y.key, .int .i64 y.tm, .slice hva hvn hvc] 56)
      have hsl1 : SlIs tSI (· < wr.heap.size) wr (.slice hva hvn hvc) y.ps := hsl.keep (fun j (hj : j < w.heap.size) => Nat.lt_of_lt_of_le hj hb1.size) (SameOn.refl _ _)
      have HCL := Lib.hid (cloneP_any y.ps _ _ (hsl1.step b1) hll)
      have HBA := Lib.hid b1
      have HOK := Lib.hid hok
      clear hsl hsl1 b1 hok hb1
      go_wp2_with (fail)
      with_reducible refine HCL.out.mono ?_
      rintro e w2 ⟨h', rfl, hi2, hb2⟩
      obtain ⟨ao3, cap3, rfl, -⟩ := hi2.form
      have hz2 := hb2.size
      have hz3 : (wr.alloc (.cells #[.string y.key, .int .i64 y.tm, .slice hva hvn hvc] 56)).heap.size = wr.heap.size + 1 := by simp
      rw [hz3] at hz2 hi2
      have n1 := (hb2.block wr.heap.size (by simp)).trans (heap_alloc_new _ _)
      obtain ⟨e0, e1, e2, ef⟩ := blk3 n1
      have hb3 := bl_trans HBA.out hb2
      have g2 := (hb3.block (w.heap.size + 2) (by omega)).trans HCW.out.b2
      obtain ⟨q0, q1, qf⟩ := blk2 g2
      have HI2 := Lib.hid hi2
      have HB3 := Lib.hid hb3
      have hl0 : wr.heap.size < w2.heap.size := by omega
      clear hi2 hb2 hz3 n1 g2 HCL hb3 c0 c1 f0 f1 ff d0 d1 d2
      have q0' : w2.cell? ⟨w.heap.size + 1 + 1, 0, none⟩ = some (.slice a3 k c3) := q0
      clear q0 q1 qf
      have b4 : Below wr.heap.size wr (w2.setCell ⟨wr.heap.size, 2, none⟩ (.slice ao3 y.ps.length cap3)) := bl_set HB3.out _ (Nat.le_refl _)
      have n4 : New (tEnt 101) wr.heap.size (w2.setCell ⟨wr.heap.size, 2, none⟩ (.slice ao3 y.ps.length cap3)) (eCells y (.slice ao3 y.ps.length cap3)) y := newEnt HOK.out ((HI2.out.same (fun j hj => Below.heap_setCell _ _ _ _ (by simp; omega))).mono (by omega))
      have HB4 := Lib.hid b4
      have HN4 := Lib.hid n4
      have HCS := Lib.hid (show ∀ W5, Below (w.heap.size + 3) (w2.setCell ⟨wr.heap.size, 2, none⟩ (.slice ao3 y.ps.length cap3)) W5 → CW w.heap.size (.slice (some ⟨bi, off, none⟩) le.length cap) (.slice ao2 ld.length cap2) (.slice a3 k c3) (.slice none 0 0) W5 ∧ Below (w.heap.size + 3) wr W5 from fun W5 h5 => ⟨HCW.out.step ((b4.mono hsz).trans h5) (by omega), (b4.mono hsz).trans h5⟩)
      have htl2 : (le.take k).length ≤ 1000000 := by omega
      have HTL := Lib.hid htl2
      have h5 : w.heap.size + 1 + 1 ≠ wr.heap.size := by omega
      have h6 : w.heap.size + 1 + 1 < w2.heap.size := by omega
      clear b4 n4 htl2
      go_wp2_with (at_builtin
                   refine wpList_append_new (.tmp 22) (.tmp 24) rfl 66 rfl slEnt rfl HN.out HB4.out (by rw [World.size_setCell]; rfl) HN4.out (by have := HTL.out; omega) (by have := HTL.out; unfold maxLen; omega) hsz ?_
                   intro v' w5 hn5 hb5
                   have hf5 := hn5.form
                   rw [List.length_append, htl] at hf5
                   obtain ⟨a5, c5, rfl, -⟩ := hf5
                   obtain ⟨hcw5, hb6⟩ := HCS.out w5 hb5
                   have g5 := hcw5.b2
                   obtain ⟨r0, r1, rf⟩ := blk2 g5
                   have rf' : ∀ j, w5.frozen? ⟨w.heap.size + 1 + 1, j, none⟩ = false := rf
                   have r0' : w5.cell? ⟨w.heap.size + 1 + 1, 0, none⟩ = some (.slice a3 k c3) := r0
                   have HN5 := Lib.hid hn5
                   have HB6 := Lib.hid hb6
                   have HB7 := Lib.hid (show Below w.heap.size w w5 from HB1.out.trans (hb6.mono (by omega)))
                   have HCW5 := Lib.hid hcw5
                   have hl5 : w.heap.size + 1 + 1 < w5.heap.size := lt_of_heap g5
                   clear hn5 hb5 hb6 hcw5 g5 r0 r1 rf)
      go_roundg (le.length - (k + 1))
      case measure => omega
      case rel => exact ⟨k + 1, _, by omega, by go_num, HCW5.out.put, by rw [HG1.out]; exact HN5.out.same (fun j hj => Below.heap_setCell _ _ _ _ (by simp; omega)), bl_set (HB7.out) _ (by simp; omega), by simp; have := HB6.out.size; omega⟩
    · have hkd : decide ((k : Int) < (le.length : Int)) = false := by simp; omega
      have HKN := Lib.hid (show NewL (tEnt 101) 56 (w.heap.size + 3) wr (.slice a3 k c3) le by have := HN.out; rwa [List.take_of_length_le (by omega)] at this)
      clear hb1
      obtain ⟨wo, rfl⟩ : ∃ wo : World, wo = wr := ⟨_, rfl⟩
      go_wp2
      go_loopg [32] ld.length (fun g i wr => ∃ (j : Nat) (v4 : Value), j + g = ld.length ∧ i = .int .i64 j ∧ CW w.heap.size (.slice ao le.length cap) (.slice ao2 ld.length cap2) (.slice a3 k c3) v4 wr ∧ NewL (tChg 140) 49 wo.heap.size wr v4 (ld.take j) ∧ SameOn (fun b => w.heap.size + 3 ≤ b ∧ b < wo.heap.size) wo wr ∧ Below w.heap.size w wr ∧ wo.heap.size ≤ wr.heap.size)
      case atStart => exact ⟨0, _, by omega, rfl, HCW.out, NewL.nil, SameOn.refl _ _, HB1.out, Nat.le_refl _⟩
      case round =>
        obtain ⟨j, v4, hj, rfl, hc, hn, hsm, hb1, hso⟩ := hrel
        have HN2 := Lib.hid hn
        have HC2 := Lib.hid hc
        have HB2 := Lib.hid hb1
        have HSM := Lib.hid hsm
        obtain ⟨a4, c4, rfl, hc41, hc42⟩ := hn.form
        have htl2 : (ld.take j).length = j := by simp; omega
        rw [htl2] at HN2 HC2 hc
        clear hn hsm hc41 hc42
        by_cases hlt2 : j < ld.length
        · obtain ⟨rfl, -, hbi2, hok, hv, hsl, d0, d1, d2, d3, d4, d5, d6⟩ := HO2.out wr (.of_below hb1) j hlt2
          have hll := HLS.out _ (List.getElem_mem hlt2)
          have HG2 := Lib.hid (show ld.take (j + 1) = ld.take j ++ [ld[j]] from List.take_succ_eq_append_getElem hlt2)
          have k0 : (0 : Int) ≤ (j : Int) := by omega
          have k1 : (j : Int) < (ld.length : Int) := by omega
          generalize ld[j] = y at *
          obtain ⟨hva, hvn, hvc, hve⟩ : ∃ a n c, hv = .slice a n c := by
            obtain ⟨a, c, _, _, e, -⟩ := hsl
            exact ⟨a, _, c, e⟩
          subst hve
          have hsl1 : SlIs tSI (· < wr.heap.size) wr (.slice hva hvn hvc) y.ls := hsl.keep (fun q (hq : q < w.heap.size) => Nat.lt_of_lt_of_le hq hb1.size) (SameOn.refl _ _)
          have HSL := Lib.hid hsl1
          have HOK := Lib.hid hok
          clear hsl hsl1 hok hb1
          obtain ⟨c0, c1, -⟩ := blk2 hc.b0
          go_upto_region 11 with (fail)
          have hb3 := bl_alloc (Below.refl wr.heap.size wr) (.cells #[.string y.key, .string y.veh, .string y.sys, .int .i64 y.cls, .int .i64 y.tm, .slice hva hvn hvc, .int .i64 y.c] 49)
          have n3 := heap_alloc_new wr (.cells #[.string y.key, .string y.veh, .string y.sys, .int .i64 y.cls, .int .i64 y.tm, .slice hva hvn hvc, .int .i64 y.c] 49)
          generalize wr.alloc (.cells #[.string y.key, .string y.veh, .string y.sys, .int .i64 y.cls, .int .i64 y.tm, .slice hva hvn hvc, .int .i64 y.c] 49) = wb at hb3 n3 ⊢
          have HB3 := Lib.hid hb3
          have g3 := (hb3.block (w.heap.size + 2) (by omega)).trans HC2.out.b2
          have HK1 := Lib.hid (show ∀ w', Below wb.heap.size wb w' → w'.cell? ⟨w.heap.size + 1 + 1, 1, none⟩ = some (.slice a4 j c4) from fun w' hw' => (hw'.cell (p := ⟨w.heap.size + 2, 1, none⟩) (lt_of_heap g3)).trans (blk2 g3).2.1)
          have HK7 := Lib.hid (show ∀ w', Below wb.heap.size wb w' → w'.cell? ⟨wr.heap.size, 0, none⟩ = some (.string y.key) ∧ w'.cell? ⟨wr.heap.size, 1, none⟩ = some (.string y.veh) ∧ w'.cell? ⟨wr.heap.size, 2, none⟩ = some (.string y.sys) ∧ w'.cell? ⟨wr.heap.size, 3, none⟩ = some (.int .i64 y.cls) ∧ w'.cell? ⟨wr.heap.size, 4, none⟩ = some (.int .i64 y.tm) ∧ w'.cell? ⟨wr.heap.size, 5, none⟩ = some (.slice hva hvn hvc) ∧ w'.cell? ⟨wr.heap.size, 6, none⟩ = some (.int .i64 y.c) from fun w' hw' => by
            obtain ⟨z0, z1, z2, z3, z4, z5, z6, -⟩ := blk7 ((hw'.block _ (lt_of_heap n3)).trans n3)
            exact ⟨z0, z1, z2, z3, z4, z5, z6⟩)
          have HCC := Lib.hid (show ∀ W, Below wb.heap.size wb W → Calls Tryz.prog 52 #[.agg #[.string y.key, .string y.veh, .string y.sys, .int .i64 y.cls, .int .i64 y.tm, .slice hva hvn hvc, .int .i64 y.c]] W fun e w' => ∃ h', e = .returned (.agg #[.string y.key, .string y.veh, .string y.sys, .int .i64 y.cls, .int .i64 y.tm, h', .int .i64 y.c]) ∧ NewL tSI 140 W.heap.size w' h' y.ls ∧ Below W.heap.size W w' from fun W hW => cloneC_any y _ W (HSL.out.step (bl_trans HB3.out hW)) hll)
          clear hb3 g3 n3 c0 c1 d0 d1 d2 d3 d4 d5 d6
          refine wp_region_E 5 (fun w' => Below wb.heap.size wb w') (by kernel_rfl) ((by (repeat (first | (with_reducible exact Below.refl _ _) | (with_reducible apply bl_drewN) | (with_reducible apply bl_alloc) | (with_reducible apply Below.drew))); done)) (fun hHeld => ?_)
          refine wpE_take (i := 0) (v := ?_) rfl (by kernel_rfl) (fun _ _ _ h => h) (Or.inl ⟨by kernel_rfl, ?_⟩) (by assumption) ?_
          rotate_left
          focus (intro w9 hS9; (try dsimp only at hS9); go_simp; (try with_reducible rfl))
          (try simp only [List.getElem_toArray, List.getElem_cons_zero])
          (try simp only [Act.put])
          (try simp only [List.setIfInBounds_toArray])
          (repeat (first | simp only [List.set_cons_succ] | simp only [List.set_cons_zero]))
          refine wpE_take (i := 1) (v := ?_) rfl (by kernel_rfl) (fun _ _ _ h => h) (Or.inl ⟨by kernel_rfl, ?_⟩) (by assumption) ?_
          rotate_left
          focus (intro w9 hS9; have z0 := HK1.out w9 hS9; clear hS9; go_simp; (try with_reducible rfl))
          (try simp only [List.getElem_toArray, List.getElem_cons_succ, List.getElem_cons_zero])
          (try simp only [Act.put])
          (try simp only [List.setIfInBounds_toArray])
          (repeat (first | simp only [List.set_cons_succ] | simp only [List.set_cons_zero]))
          refine wpE_take (i := 2) (v := ?_) rfl (by kernel_rfl) (fun _ _ _ h => h) (Or.inl ⟨by kernel_rfl, ?_⟩) (by assumption) ?_
          rotate_left
          focus (intro w9 hS9; obtain ⟨z0, z1, z2, z3, z4, z5, z6⟩ := HK7.out w9 hS9; clear hS9; go_simp; (try with_reducible rfl))
          (try simp only [List.getElem_toArray, List.getElem_cons_succ, List.getElem_cons_zero])
          (try simp only [Act.put])
          (try simp only [List.setIfInBounds_toArray])
          (repeat (first | simp only [List.set_cons_succ] | simp only [List.set_cons_zero]))
          refine wpE_ready (rs := [3]) (by kernel_rfl) (by kernel_rfl) ?_
          refine AllReadyE.cons rfl (fun K hK => ?_) AllReadyE.nil
          go_simp
          with_reducible refine (HCC.out _ (by (repeat (first | (with_reducible exact Below.refl _ _) | (with_reducible apply bl_drewN) | (with_reducible apply bl_alloc) | (with_reducible apply Below.drew))); done)).mono ?_
          rintro e w5 ⟨h', rfl, hn5, hb5⟩
          obtain ⟨a5, c5, rfl, -⟩ := hn5.form
          have HN5 := Lib.hid (show NewL tSI 140 wb.heap.size w5 (.slice a5 y.ls.length c5) y.ls from hn5)
          have HB5 := Lib.hid (show Below wb.heap.size wb w5 from bl_trans (by (repeat (first | (with_reducible exact Below.refl _ _) | (with_reducible apply bl_drewN) | (with_reducible apply bl_alloc) | (with_reducible apply Below.drew))); done) hb5)
          clear hn5 hb5 HCC
          clear hHeld
          refine hK.out _ _ (HB5.out) (fun hHeld => ?_)
          clear hK K
          refine wpE_ready (rs := [4]) (by kernel_rfl) (by kernel_rfl) ?_
          refine AllReadyE.cons rfl (fun K hK => ?_) AllReadyE.nil
          go_simp
          clear hHeld
          refine hK.out _ _ (bl_trans HB5.out (by (repeat (first | (with_reducible exact Below.refl _ _) | (with_reducible apply bl_drewN) | (with_reducible apply bl_alloc) | (with_reducible apply Below.drew))); done)) (fun hHeld => ?_)
          clear hK K
          clear hHeld
          refine wpE_out (by kernel_rfl) ?_
          refine wpAny_ready (rs := [5]) (by kernel_rfl) (by simp) ?_
          refine AllReady.cons rfl (fun K hK => ?_) AllReady.nil
          rw [if_pos (show _ = true by kernel_rfl)]
          have hj6 : (ld.take j).length ≤ 1000000 := by omega
          refine wp_append_new (w1 := wr) (.tmp 37) (.tmp 40) 52 rfl slChg (by go_simp) HN2.out (by first | exact bl_trans HB3.out HB5.out | exact bl_trans HB3.out (bl_trans HB5.out (by (repeat (first | (with_reducible exact Below.refl _ _) | (with_reducible apply bl_drewN) | (with_reducible apply bl_alloc) | (with_reducible apply Below.drew))); done))) (by go_simp) (newChg HOK.out (HN5.out.mono HB3.out.size)) (by omega) (by unfold maxLen; omega) hso ?_
          intro v6 w6 hn6 hb6
          have hf6 := hn6.form
          rw [List.length_append, htl2] at hf6
          obtain ⟨a6, c6, rfl, -⟩ := hf6
          have hbx : Below (w.heap.size + 3) wr w6 := ((bl_trans HB3.out HB5.out).mono (by omega)).trans (hb6.mono hsz)
          have hsmx : SameOn (fun b => w.heap.size + 3 ≤ b ∧ b < wo.heap.size) wo w6 := HSM.out.trans (fun b hb => ((hb6.block b (by omega)).trans ((bl_trans HB3.out HB5.out).block b (by omega))))
          have hcx := HC2.out.step hbx (by omega)
          have g6 := hcx.b2
          obtain ⟨r0, r1, rf⟩ := blk2 g6
          have rf' : ∀ j, w6.frozen? ⟨w.heap.size + 1 + 1, j, none⟩ = false := rf
          have r1' : w6.cell? ⟨w.heap.size + 1 + 1, 1, none⟩ = some (.slice a4 j c4) := r1
          have hl6 : w.heap.size + 1 + 1 < w6.heap.size := lt_of_heap g6
          have HN6 := Lib.hid hn6
          have HBX := Lib.hid (show Below w.heap.size w w6 from HB2.out.trans (hbx.mono (by omega)))
          have HSX := Lib.hid hsmx
          have HCX := Lib.hid hcx
          have HZX := Lib.hid (show wo.heap.size ≤ w6.heap.size from Nat.le_trans hso hbx.size)
          clear hn6 hb6 hbx hsmx hcx g6 r0 r1 rf
          refine hK _ _ ?_
          clear hK K
          (try simp only [List.getElem_toArray, List.getElem_cons_succ, List.getElem_cons_zero])
          (try simp only [Act.put])
          (try simp only [List.setIfInBounds_toArray])
          (repeat (first | simp only [List.set_cons_succ] | simp only [List.set_cons_zero]))
          refine wpAny_ready (rs := [6]) (by kernel_rfl) (by simp) ?_
          refine AllReady.cons rfl (fun K hK => ?_) AllReady.nil
          rw [if_pos (show _ = true by kernel_rfl)]
          go_simp
          refine hK _ _ ?_
          clear hK K
          refine wpAny_ready (rs := [7]) (by kernel_rfl) (by simp) ?_
          refine AllReady.cons rfl (fun K hK => ?_) AllReady.nil
          rw [if_pos (show _ = true by kernel_rfl)]
          go_simp
          refine hK _ _ ?_
          clear hK K
          refine wpAny_done (by kernel_rfl) ?_ _
          go_wp2
          go_roundg (ld.length - (j + 1))
          case measure => omega
          case rel => exact ⟨j + 1, _, by omega, by go_num, HCX.out.put1, by rw [HG2.out]; exact HN6.out.same (fun q hq => Below.heap_setCell _ _ _ _ (by simp; omega)), HSX.out.trans (fun q hq => Below.heap_setCell _ _ _ _ (by simp; omega)), bl_set HBX.out _ (by simp; omega), by simpa using HZX.out⟩
        · have hkd2 : decide ((j : Int) < (ld.length : Int)) = false := by simp; omega
          obtain rfl : k = le.length := by omega
          obtain rfl : j = ld.length := by omega
          have HN3 := Lib.hid (show NewL (tChg 140) 49 wo.heap.size wr (.slice a4 ld.length c4) ld by have := HN2.out; rwa [List.take_length] at this)
          obtain ⟨s0, s1, sf⟩ := blk2 hc.b1
          obtain ⟨t0, t1, -⟩ := blk2 hc.b2
          have t0' : wr.cell? ⟨w.heap.size + 1 + 1, 0, none⟩ = some (.slice a3 le.length c3) := t0
          have t1' : wr.cell? ⟨w.heap.size + 1 + 1, 1, none⟩ = some (.slice a4 ld.length c4) := t1
          have ls : w.heap.size + 1 < wr.heap.size := by omega
          clear hb1 t0 t1
          go_wp2
          refine bodyPost_ret (v := .agg #[.slice a3 le.length c3, .slice a4 ld.length c4]) (by simp [results, Tryz.results51, go_sem, s0, s1]) rfl ⟨_, _, wo.heap.size, rfl, by omega, by simpa using hso, ?_, ?_, ?_⟩
          · refine HKN.out.sl.keep (fun q hq => ⟨by omega, hq.2⟩) ((HSM.out.mono (fun q hq => hq)).trans (fun q hq => ?_))
            exact (Below.heap_setCell _ _ _ _ (by simp; omega)).trans (Below.heap_setCell _ _ _ _ (by simp; omega))
          · exact HN3.out.same (fun q hq => (Below.heap_setCell _ _ _ _ (by simp; omega)).trans (Below.heap_setCell _ _ _ _ (by simp; omega)))
          · exact bl_set (bl_set HB2.out _ (by simp)) _ (by simp)
end Go.Proofs.YtifcelebfagjbaaGreatDoor
/-
  Layer 32 (ledger): Find.
-/
namespace Go.Tw.Po
open Go.RowKit Go.Tw Go.Sort Go.Tw.Ord
def zeroE : Ent := ⟨ByteArray.empty, 0, []⟩
def fndE (l : List Ent) (s : ByteArray) : Option Ent := l.find? fun x => decide (x.key = s)
theorem fndE_some {l : List Ent} {s : ByteArray} {k : Nat} (hk : k < l.length) (h : l[k].key = s) (hb : ∀ j (hj : j < l.length), j < k → l[j].key ≠ s) : fndE l s = some l[k] := by
  unfold fndE
  rw [List.find?_eq_some_iff_getElem]
  exact ⟨by simpa using h, k, hk, rfl, fun j hj => by simpa using hb j (by omega) hj⟩
theorem fndE_none {l : List Ent} {s : ByteArray} (h : ∀ j (hj : j < l.length), l[j].key ≠ s) : fndE l s = none := by
  unfold fndE
  rw [List.find?_eq_none]
  intro x hx
  obtain ⟨j, hj, rfl⟩ := List.getElem_of_mem hx
  simpa using h j hj
end Go.Tw.Po
namespace Go.Proofs.YtifcelebfagjbaaGreatDoor
open Go.RowKit Go.Tw Go.Tw.Ord Go.Tw.Po Go.Sort
/-- a ledger in a box, an entry of nothing behind -/
def LW (w : World) (a : Value) (wr : World) : Prop := wr.heap[w.heap.size]? = some (.cells #[a] 68 (0, 0)) ∧ wr.heap[w.heap.size + 1]? = some (.cells #[.string ByteArray.empty, .int .i64 0, .slice none 0 0] 56 (0, 0)) ∧ Below w.heap.size w wr
theorem LW.start (w : World) (a : Value) : LW w a ((w.alloc (.cells #[a] 68)).alloc (.cells #[.string ByteArray.empty, .int .i64 0, .slice none 0 0] 56)) := ⟨heap_alloc2_old w _ _, heap_alloc2_new w _ _, bl_alloc (bl_alloc (Below.refl _ _) _) _⟩
theorem LW.step {w wr w' : World} {a : Value} (h : LW w a wr) (hb : Below wr.heap.size wr w') : LW w a w' := ⟨(hb.block _ (lt_of_heap h.1)).trans h.1, (hb.block _ (lt_of_heap h.2.1)).trans h.2.1, bl_trans h.2.2 hb⟩
set_option maxRecDepth 100000 in
set_option maxHeartbeats 2000000 in
theorem lfind_any (l : List Ent) (v : Value) (id : ByteArray) (w : World) (h : SlIs (tEnt 101) (· < w.heap.size) w v l) (hps : ∀ e ∈ l, e.ps.length ≤ 1000000) :
    Calls Tryz.prog 104 #[.agg #[v], .string id] w fun e w' => (∃ xa xn xc, e = .returned (.tuple #[.agg #[.string ((fndE l id).getD zeroE).key, .int .i64 ((fndE l id).getD zeroE).tm, .slice xa xn xc], .bool (fndE l id).isSome])) ∧ Below w.heap.size w w' := by
  have HS := Lib.hid (LW.start w v)
  have HPS := Lib.hid hps
  obtain ⟨ao, cap, b, off, rfl, h1, h2, ho⟩ := ent_open h
  unfold maxLen at h2
  have HO := Lib.hid ho
  clear ho h hps
  go_enter Tryz.func104, Tryz.ntmps104
  go_wp2
  go_loopg [11] l.length (fun g i wr => ∃ k : Nat, k + g = l.length ∧ i = .int .i64 k ∧ Hid (∀ j (hj : j < l.length), j < k → l[j].key ≠ id) ∧ Hid (LW w (.slice ao l.length cap) wr))
  case atStart => exact ⟨0, by omega, rfl, Lib.hid (fun j _ h => by omega), HS⟩
  case round =>
    obtain ⟨k, hk, rfl, HT, HW1⟩ := hrel
    clear HS
    have hbw : Below w.heap.size w wr := HW1.out.2.2
    obtain ⟨z0, z1, z2, zf⟩ := blk3 HW1.out.2.1
    have l1 : w.heap.size + 1 < wr.heap.size := lt_of_heap HW1.out.2.1
    by_cases hlt : k < l.length
    · obtain ⟨rfl, -, hbi, -, hv, hsl, d0, d1, d2⟩ := HO.out wr (.of_below hbw) k hlt
      have hll := HPS.out _ (List.getElem_mem hlt)
      obtain ⟨hva, hvn, hvc, hve⟩ : ∃ a n c, hv = .slice a n c := by
        obtain ⟨a, c, _, _, e, -⟩ := hsl
        exact ⟨a, _, c, e⟩
      subst hve
      have k0 : (0 : Int) ≤ (k : Int) := by omega
      have k1 : (k : Int) < (l.length : Int) := by omega
      have HFS := Lib.hid (fun (hq : l[k].key = id) => fndE_some hlt hq HT.out)
      have HG1 := Lib.hid (show ∀ j (hj : j < l.length), j = k → l[j] = l[k] by rintro j hj rfl; rfl)
      generalize l[k] = y at *
      have b1 := bl_alloc (Below.refl wr.heap.size wr) (.cells #[.string y.key, .int .i64 y.tm, .slice hva hvn hvc] 56)
      have hsl1 : SlIs tSI (· < wr.heap.size) wr (.slice hva hvn hvc) y.ps := hsl.keep (fun q (hq : q < w.heap.size) => Nat.lt_of_lt_of_le hq hbw.size) (SameOn.refl _ _)
      have HCL := Lib.hid (cloneE_any y _ _ (hsl1.step b1) hll)
      have HLS := Lib.hid (HW1.out.step b1)
      obtain ⟨q, hq⟩ : ∃ q, (y.key.toList == id.toList) = q := ⟨_, rfl⟩
      have HQ := Lib.hid (show decide (y.key = id) = q by rw [← hq, eq_str])
      clear hsl hsl1 b1
      cases q with
      | true =>
        have HE := Lib.hid (HFS.out (by simpa using HQ.out))
        go_wp2_with (fail)
        with_reducible refine HCL.out.mono ?_
        rintro e w2 ⟨h', rfl, hi2, hb2⟩
        obtain ⟨ao3, cap3, rfl, -⟩ := hi2.form
        have HL2 := Lib.hid (HLS.out.step hb2)
        obtain ⟨y0, y1, y2, yf⟩ := blk3 HL2.out.2.1
        have l2 : w.heap.size + 1 < w2.heap.size := lt_of_heap HL2.out.2.1
        have hbw2 : Below w.heap.size w w2 := HL2.out.2.2
        have HBW2 := Lib.hid hbw2
        clear hi2 hb2 HCL z0 z1 z2 zf hbw hbw2
        go_wp2
        rw [HE.out]
        refine bodyPost_ret (v := .tuple #[.agg #[.string y.key, .int .i64 y.tm, .slice ao3 y.ps.length cap3], .bool true]) (by simp [results, Tryz.results104, go_sem, y0, y1, y2]) rfl ⟨⟨_, _, _, rfl⟩, ?_⟩
        (repeat (first | (with_reducible exact HBW2.out) | (with_reducible apply bl_drewN) | (with_reducible apply bl_alloc) | ((with_reducible refine bl_set ?_ _ ?_); rotate_left; focus (first | exact Nat.le_refl _ | (simp; done) | (simp; omega)))))
      | false =>
        go_wp2
        go_roundg (l.length - (k + 1))
        case measure => omega
        case rel => exact ⟨k + 1, by omega, by go_num, Lib.hid (fun j hj h => by
          by_cases e : j = k
          · rw [HG1.out j hj e]; simpa using HQ.out
          · exact HT.out j hj (by omega)), HLS⟩
    · have HE := Lib.hid (fndE_none (s := id) fun j hj => HT.out j hj (by omega))
      go_wp2
      rw [HE.out]
      refine bodyPost_ret (v := .tuple #[.agg #[.string ByteArray.empty, .int .i64 0, .slice none 0 0], .bool false]) (by simp [results, Tryz.results104, go_sem, z0, z1, z2]; rfl) rfl ⟨⟨_, _, _, rfl⟩, ?_⟩
      (repeat (first | (with_reducible exact hbw) | (with_reducible apply bl_drewN) | (with_reducible apply bl_alloc) | ((with_reducible refine bl_set ?_ _ ?_); rotate_left; focus (first | exact Nat.le_refl _ | (simp; done) | (simp; omega)))))
end Go.Proofs.YtifcelebfagjbaaGreatDoor
/-
  A region that draws its order: loads are taken first where the condition S on the world need hold only behind the operations of kind 0; those of kind 1 leave the world alone; all others wait for the load by an edge of their own. What yields the same in every world is taken first without any condition. No program in sight.
-/
namespace Go.Tw
open Go.RowKit
section
variable {P : Program} {ops : Array Oper} {Q : Exit → Act → World → Prop} {md : Region.Mode} {D : Nat → Nat} {S : World → Prop}
/-- whatever order is picked, and S holds behind each of D -/
def wpD (P : Program) (md : Region.Mode) (ops : Array Oper) (Q : Exit → Act → World → Prop) (D : Nat → Nat) (S : World → Prop) : Nat → Array Bool → Act → World → Prop
  | 0, listed, a, w => Region.ready md ops listed = [] ∧ Q .normal a w
  | fuel + 1, listed, a, w =>
    (Region.ready md ops listed = [] → Q .normal a w) ∧
    ∀ i ∈ Region.ready md ops listed, wpOp P ops Q i (fun a' w' => ((D i = 0 → S w') ∧ (D i = 1 → w' = w)) ∧ wpD P md ops Q D S fuel (listed.setIfInBounds i true) a' w') a w
theorem wpAny_of_D : ∀ (fuel : Nat) (listed : Array Bool) (a : Act) (w : World), wpD P md ops Q D S fuel listed a w → wpAny P md ops Q fuel listed a w
  | 0, _, _, _, h => h
  | fuel + 1, _, _, _, h => ⟨h.1, fun i hi => wpOp_mono (fun a' w' h' => wpAny_of_D fuel _ a' w' h'.2) (h.2 i hi)⟩
/-- is each operation that is not of D behind i, by an edge of its own? -/
def Region.behind (md : Region.Mode) (ops : Array Oper) (D : Nat → Nat) (i : Nat) : Bool :=
  (List.range ops.size).all fun j => decide (j = i) || decide (D j = 0) || decide (D j = 1) || (match ops[j]? with | some oj => oj.after.any fun e => Region.binds md e && decide (e.on = i) | none => true)
theorem behind_spec {i : Nat} (h : Region.behind md ops D i = true) {j : Nat} {oj : Oper} (hoj : ops[j]? = some oj) (hji : j ≠ i) (hn : ∀ e ∈ oj.after, Region.binds md e = true → e.on ≠ i) : D j = 0 ∨ D j = 1 := by
  unfold Region.behind at h
  have hj : j < ops.size := by
    rcases Nat.lt_or_ge j ops.size with q | q
    · exact q
    · rw [Array.getElem?_eq_none q] at hoj; cases hoj
  have := List.all_eq_true.1 h j (List.mem_range.2 hj)
  rw [hoj] at this
  simp only [Bool.or_eq_true, decide_eq_true_eq, Array.any_eq_true, Bool.and_eq_true] at this
  rcases this with ((q | q) | q) | ⟨k, hk, q1, q2⟩
  · exact absurd q hji
  · exact .inl q
  · exact .inr q
  · exact absurd q2 (hn _ (Array.getElem_mem hk) q1)
theorem wpD_first {S' : World → Prop} {i : Nat} {oi : Oper} {v : Value} (hi : ops[i]? = some oi) (hsel : ∀ (j : Nat) (o : Oper) cs b, ops[j]? = some o → o.op ≠ .select cs b)
    (hQ : ∀ c a w, Q (.panic c) (a.put oi.dst v) w → Q (.panic c) a w)
    (hD : ∀ j oj, ops[j]? = some oj → j ≠ i → (∀ e ∈ oj.after, Region.binds md e = true → e.on ≠ i) → ∀ w w', S' w → ((D j = 0 → S w') ∧ (D j = 1 → w' = w)) → S' w') (hD0 : ∀ w', S' w' → D i = 0 → S w') :
    ∀ (fuel : Nat) (listed : Array Bool) (a : Act) (w : World),
      (∀ j oj, ops[j]? = some oj → j ≠ i → listed.getD j true = false → (∀ e ∈ oj.after, Region.binds md e = true → e.on ≠ i) → oi.apart ops oj = true) →
      i ∈ Region.ready md ops listed → YieldsIf P ops S' oi v a → S' w →
      wpD P md ops Q D S fuel (listed.setIfInBounds i true) (a.put oi.dst v) w → wpD P md ops Q D S (fuel + 1) listed a w := by
  intro fuel
  induction fuel with
  | zero =>
    intro listed a w _ hr hy hS H
    refine ⟨fun h => (by rw [h] at hr; cases hr), fun j hj => ?_⟩
    by_cases hji : j = i
    · subst hji; exact hy.wpOp hi hS ⟨⟨hD0 w hS, fun _ => rfl⟩, H⟩
    · have := ready_mono hj hji
      rw [H.1] at this
      cases this
  | succ fuel ih =>
    intro listed a w hfree hr hy hS H
    refine ⟨fun h => (by rw [h] at hr; cases hr), fun j hj => ?_⟩
    by_cases hji : j = i
    · subst hji; exact hy.wpOp hi hS ⟨⟨hD0 w hS, fun _ => rfl⟩, H⟩
    · have h1 := H.2 j (ready_mono hj hji)
      obtain ⟨hjun, oj, hoj, hall⟩ := mem_ready.1 hj
      have hun := (mem_ready.1 hr).1
      have hnot : ∀ e ∈ oj.after, Region.binds md e = true → e.on ≠ i := fun e he hb heq => by
        have h1 := hall e he hb
        rw [heq, getD_both hun] at h1
        cases h1
      have hDj := hD j oj hoj hji hnot
      have h2 := wpOp_putIf hoj (hfree j oj hoj hji hjun hnot) (fun cs b => hsel i oi cs b hi) (fun cs b => hsel j oj cs b hoj) hQ hy h1
      have hfree' : ∀ k ok, ops[k]? = some ok → k ≠ i → (listed.setIfInBounds j true).getD k true = false →
          (∀ e ∈ ok.after, Region.binds md e = true → e.on ≠ i) → oi.apart ops ok = true := fun k ok hk hki hun hno => by
        refine hfree k ok hk hki ?_ hno
        by_cases hjk : j = k
        · subst hjk; exact hjun
        · rw [getD_set_ne true hjk] at hun; exact hun
      refine wpOp_mono (fun a' w' h3 => ⟨h3.2.1, ih (listed.setIfInBounds j true) a' w' hfree' (ready_mono hr (Ne.symm hji)) h3.1 (hDj w w' hS h3.2.1) ?_⟩) h2
      rw [Array.setIfInBounds_comm _ _ hji]
      exact h3.2.2
theorem wpD_take {i : Nat} {oi : Oper} {v : Value} {fuel : Nat} {listed : Array Bool} {a : Act} {w : World} (hi : ops[i]? = some oi) (hB : (Region.behind md ops D i && Region.noSelect ops && Region.free md ops listed i && (Region.ready md ops listed).contains i) = true)
    (hQ : ∀ c a w, Q (.panic c) (a.put oi.dst v) w → Q (.panic c) a w) (hy : YieldsIf P ops S oi v a) (hS : S w)
    (h : wpD P md ops Q D S fuel (listed.setIfInBounds i true) (a.put oi.dst v) w) : wpD P md ops Q D S (fuel + 1) listed a w := by
  simp only [Bool.and_eq_true] at hB
  obtain ⟨⟨⟨h1, h5⟩, h6⟩, h7⟩ := hB
  have hr : i ∈ Region.ready md ops listed := by simpa using h7
  exact wpD_first (S' := S) hi (Region.noSelect_spec h5) hQ (fun j oj hoj hji hn w w' hw hd => by
    rcases behind_spec h1 hoj hji hn with q | q
    · exact hd.1 q
    · rw [hd.2 q]; exact hw) (fun w' hw _ => hw) fuel listed a w (Region.free_spec hi h6) hr hy hS h
/-- what yields the same in every world: it waits for nothing; itself it is not of D, or S holds all the while -/
theorem wpD_pure {i : Nat} {oi : Oper} {v : Value} {fuel : Nat} {listed : Array Bool} {a : Act} {w : World} (hi : ops[i]? = some oi) (hB : (decide (D i ≠ 0) && Region.noSelect ops && Region.free md ops listed i && (Region.ready md ops listed).contains i) = true)
    (hQ : ∀ c a w, Q (.panic c) (a.put oi.dst v) w → Q (.panic c) a w) (hy : YieldsIf P ops (fun _ => True) oi v a)
    (h : wpD P md ops Q D S fuel (listed.setIfInBounds i true) (a.put oi.dst v) w) : wpD P md ops Q D S (fuel + 1) listed a w := by
  simp only [Bool.and_eq_true] at hB
  obtain ⟨⟨⟨h1, h5⟩, h6⟩, h7⟩ := hB
  have hr : i ∈ Region.ready md ops listed := by simpa using h7
  exact wpD_first (S' := fun _ => True) hi (Region.noSelect_spec h5) hQ (fun j oj hoj hji hn w w' _ _ => trivial) (fun w' _ hd => by simp at h1; exact absurd hd h1) fuel listed a w (Region.free_spec hi h6) hr hy trivial h
def AllReadyD (P : Program) (md : Region.Mode) (ops : Array Oper) (Q : Exit → Act → World → Prop) (D : Nat → Nat) (S : World → Prop) (fuel : Nat) (listed : Array Bool) (a : Act) (w : World) (rs : List Nat) : Prop :=
  ∀ i ∈ rs, wpOp P ops Q i (fun a' w' => ((D i = 0 → S w') ∧ (D i = 1 → w' = w)) ∧ wpD P md ops Q D S fuel (listed.setIfInBounds i true) a' w') a w
theorem AllReadyD.nil {fuel : Nat} {listed : Array Bool} {a : Act} {w : World} : AllReadyD P md ops Q D S fuel listed a w [] := fun _ h => by cases h
theorem AllReadyD.cons {fuel : Nat} {listed : Array Bool} {a : Act} {w : World} {i : Nat} {o : Oper} {rs : List Nat} (ho : ops[i]? = some o)
    (h : ∀ K' : Act → World → Prop, Shut (∀ a' w', ((D i = 0 → S w') ∧ (D i = 1 → w' = w)) → (((D i = 0 → S w') ∧ (D i = 1 → w' = w)) → wpD P md ops Q D S fuel (listed.setIfInBounds i true) a' w') → K' a' w') → if Region.wanted o (yielded ops a.tmps) = true then Oper.wp P o a w K' Q else K' (a.put o.dst undef) w)
    (hs : AllReadyD P md ops Q D S fuel listed a w rs) : AllReadyD P md ops Q D S fuel listed a w (i :: rs) := fun j hj => by
  rcases List.mem_cons.1 hj with rfl | hj
  · exact wpOp_step ho (fun K' hK => h K' (fun a w hS hW => hK a w ⟨hS, hW hS⟩))
  · exact hs j hj
theorem wpD_ready {rs : List Nat} {fuel : Nat} {listed : Array Bool} {a : Act} {w : World} (hr : Region.ready md ops listed = rs) (hB : (!rs.isEmpty) = true)
    (h : AllReadyD P md ops Q D S fuel listed a w rs) : wpD P md ops Q D S (fuel + 1) listed a w := by
  refine ⟨fun h0 => ?_, fun i hi => ?_⟩
  · rw [h0] at hr; rw [← hr] at hB; simp at hB
  · exact h i (hr ▸ hi)
theorem wpD_done {fuel : Nat} {listed : Array Bool} {a : Act} {w : World} (hB : (Region.ready md ops listed).isEmpty = true) (h : Q .normal a w) : wpD P md ops Q D S fuel listed a w := by
  have hr : Region.ready md ops listed = [] := by simpa using hB
  cases fuel with
  | zero => exact ⟨hr, h⟩
  | succ fuel => exact ⟨fun _ => h, fun i hi => by rw [hr] at hi; cases hi⟩
theorem wp_region_D {id : Nat} {a : Act} {w : World} (D : Nat → Nat) (S : World → Prop) (hm : P.follows .mixedOrders = true) (hS : S w.drew)
    (h : S w.drew → wpD P .any ops Q D S ops.size (Array.replicate ops.size false) a w.drew) : (Code.region id ops true).wp P Q a w :=
  wp_region_any hm (wpAny_of_D _ _ _ _ (h hS))
end
end Go.Tw
