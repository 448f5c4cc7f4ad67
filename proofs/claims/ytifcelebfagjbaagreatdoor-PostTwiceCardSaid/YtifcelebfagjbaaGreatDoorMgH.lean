/-
  Layer proofs, merged: Held PoB PoPt PoRc PoRd PoRe.
-/
import Derived.Deep.RegionHeld3
import Derived.StillTailTactics
import Derived.Test.YtifcelebfagjbaaGreatDoorLib
import Derived.Test.YtifcelebfagjbaaGreatDoorMgF
import Derived.Test.YtifcelebfagjbaaGreatDoorMgG
namespace Go.Tw
open Go.RowKit
section
variable {P : Program} {ops : Array Oper} {Q : Exit → Act → World → Prop} {md : Region.Mode} {S : World → Prop} {n : Nat}
def wpAnyE (P : Program) (md : Region.Mode) (ops : Array Oper) (Q : Exit → Act → World → Prop) (n : Nat) (S : World → Prop) : Nat → Array Bool → Act → World → Prop
 | 0, listed, a, w => Region.ready md ops listed = [] ∧ Q .normal a w
 | fuel + 1, listed, a, w =>
  (Region.ready md ops listed = [] → Q .normal a w) ∧
  ∀ i ∈ Region.ready md ops listed, wpOp P ops Q i (fun a' w' => (i < n → S w') ∧ wpAnyE P md ops Q n S fuel (listed.setIfInBounds i true) a' w') a w
theorem wpAny_of_E : ∀ (fuel : Nat) (listed : Array Bool) (a : Act) (w : World), wpAnyE P md ops Q n S fuel listed a w → wpAny P md ops Q fuel listed a w
 | 0, _, _, _, h => h
 | fuel + 1, _, _, _, h => ⟨h.1, fun i hi => wpOp_mono (fun a' w' h' => wpAny_of_E fuel _ a' w' h'.2) (h.2 i hi)⟩
theorem wpAnyE_first {i : Nat} {oi : Oper} {v : Value} (hi : ops[i]? = some oi) (hin : i < n) (hn : n < ops.size) (hs : Region.sinkB md ops n = true) (hc : Region.chainB md ops n = true) (hsel : ∀ (j : Nat) (o : Oper) cs b, ops[j]? = some o → o.op ≠ .select cs b)
  (hQ : ∀ c a w, Q (.panic c) (a.put oi.dst v) w → Q (.panic c) a w) :
  ∀ (fuel : Nat) (listed : Array Bool) (a : Act) (w : World), HeadInv md ops n listed →
   (∀ j oj, ops[j]? = some oj → j ≠ i → listed.getD j true = false → (∀ e ∈ oj.after, Region.binds md e = true → e.on ≠ i) → oi.apart ops oj = true) →
   i ∈ Region.ready md ops listed → YieldsIf P ops S oi v a → S w →
   wpAnyE P md ops Q n S fuel (listed.setIfInBounds i true) (a.put oi.dst v) w → wpAnyE P md ops Q n S (fuel + 1) listed a w := by
 intro fuel
 induction fuel with
 | zero =>
  intro listed a w inv _ hr hy hS H; refine ⟨fun h => (by rw [h] at hr; cases hr), fun j hj => ?_⟩
  by_cases hji : j = i
  · subst hji; exact hy.wpOp hi hS ⟨fun _ => hS, H⟩
  · have := ready_mono hj hji
    rw [H.1] at this
    cases this
 | succ fuel ih =>
  intro listed a w inv hfree hr hy hS H; refine ⟨fun h => (by rw [h] at hr; cases hr), fun j hj => ?_⟩
  by_cases hji : j = i
  · subst hji; exact hy.wpOp hi hS ⟨fun _ => hS, H⟩
  · have h1 := H.2 j (ready_mono hj hji)
    obtain ⟨hjun, oj, hoj, hall⟩ := mem_ready.1 hj; have hun := (mem_ready.1 hr).1; have hjn : j < n := Nat.lt_of_not_le fun h => tail_waits hs hc hn inv _ i rfl hin hun j h hj
    have hnot : ∀ e ∈ oj.after, Region.binds md e = true → e.on ≠ i := fun e he hb heq => by
     have h1 := hall e he hb; rw [heq, getD_both hun] at h1
     cases h1
    have h2 := wpOp_putIf hoj (hfree j oj hoj hji hjun hnot) (fun cs b => hsel i oi cs b hi) (fun cs b => hsel j oj cs b hoj) hQ hy h1
    have hfree' : ∀ k ok, ops[k]? = some ok → k ≠ i → (listed.setIfInBounds j true).getD k true = false →
      (∀ e ∈ ok.after, Region.binds md e = true → e.on ≠ i) → oi.apart ops ok = true := fun k ok hk hki hun hno => by
     refine hfree k ok hk hki ?_ hno
     by_cases hjk : j = k
     · subst hjk; exact hjun
     · rw [getD_set_ne true hjk] at hun; exact hun
    refine wpOp_mono (fun a' w' h3 => ⟨fun _ => h3.2.1 hjn, ih (listed.setIfInBounds j true) a' w' (inv.set hj hjn) hfree' (ready_mono hr (Ne.symm hji)) h3.1 (h3.2.1 hjn) ?_⟩) h2; rw [Array.setIfInBounds_comm _ _ hji]; exact h3.2.2
def wpE (P : Program) (md : Region.Mode) (ops : Array Oper) (Q : Exit → Act → World → Prop) (n : Nat) (S : World → Prop) (fuel : Nat) (listed : Array Bool) (a : Act) (w : World) : Prop := HeadInv md ops n listed → wpAnyE P md ops Q n S fuel listed a w
theorem wpE_take {i : Nat} {oi : Oper} {v : Value} {fuel : Nat} {listed : Array Bool} {a : Act} {w : World} (hi : ops[i]? = some oi) (hB : (decide (i < n) && decide (n < ops.size) && Region.sinkB md ops n && Region.chainB md ops n && Region.noSelect ops && Region.free md ops listed i && (Region.ready md ops listed).contains i) = true)
  (hQ : ∀ c a w, Q (.panic c) (a.put oi.dst v) w → Q (.panic c) a w) (hy : YieldsIf P ops S oi v a) (hS : S w)
  (h : wpE P md ops Q n S fuel (listed.setIfInBounds i true) (a.put oi.dst v) w) : wpE P md ops Q n S (fuel + 1) listed a w := fun inv => by
 simp only [Bool.and_eq_true, decide_eq_true_eq] at hB; obtain ⟨⟨⟨⟨⟨⟨h1, h2⟩, h3⟩, h4⟩, h5⟩, h6⟩, h7⟩ := hB; have hr : i ∈ Region.ready md ops listed := by simpa using h7
 exact wpAnyE_first hi h1 h2 h3 h4 (Region.noSelect_spec h5) hQ fuel listed a w inv (Region.free_spec hi h6) hr hy hS (h (inv.set hr h1))
def AllReadyE (P : Program) (md : Region.Mode) (ops : Array Oper) (Q : Exit → Act → World → Prop) (n : Nat) (S : World → Prop) (fuel : Nat) (listed : Array Bool) (a : Act) (w : World) (rs : List Nat) : Prop :=
 ∀ i ∈ rs, wpOp P ops Q i (fun a' w' => S w' ∧ wpE P md ops Q n S fuel (listed.setIfInBounds i true) a' w') a w
theorem AllReadyE.nil {fuel : Nat} {listed : Array Bool} {a : Act} {w : World} : AllReadyE P md ops Q n S fuel listed a w [] := fun _ h => by cases h
theorem AllReadyE.cons {fuel : Nat} {listed : Array Bool} {a : Act} {w : World} {i : Nat} {o : Oper} {rs : List Nat} (ho : ops[i]? = some o)
  (h : ∀ K' : Act → World → Prop, Shut (∀ a w, S w → (S w → wpE P md ops Q n S fuel (listed.setIfInBounds i true) a w) → K' a w) → if Region.wanted o (yielded ops a.tmps) = true then Oper.wp P o a w K' Q else K' (a.put o.dst undef) w)
  (hs : AllReadyE P md ops Q n S fuel listed a w rs) : AllReadyE P md ops Q n S fuel listed a w (i :: rs) := fun j hj => by
 rcases List.mem_cons.1 hj with rfl | hj
 · exact wpOp_step ho (fun K' hK => h K' (fun a w hS hW => hK a w ⟨hS, hW hS⟩))
 · exact hs j hj
theorem wpE_ready {rs : List Nat} {fuel : Nat} {listed : Array Bool} {a : Act} {w : World} (hr : Region.ready md ops listed = rs) (hB : (rs.all (fun i => decide (i < n)) && !rs.isEmpty) = true)
  (h : AllReadyE P md ops Q n S fuel listed a w rs) : wpE P md ops Q n S (fuel + 1) listed a w := fun inv => by
 simp only [Bool.and_eq_true, List.all_eq_true, decide_eq_true_eq] at hB; refine ⟨fun h0 => ?_, fun i hi => ?_⟩
 · rw [h0] at hr; rw [← hr] at hB; simp at hB
 · have hi' : i ∈ rs := hr ▸ hi
   exact wpOp_mono (fun a' w' h' => ⟨fun _ => h'.1, h'.2 (inv.set hi (hB.1 i hi'))⟩) (h i hi')
theorem wpE_out {fuel : Nat} {listed : Array Bool} {a : Act} {w : World} (hB : (List.range n).all (fun i => listed.getD i false) = true) (h : wpAny P md ops Q fuel listed a w) : wpE P md ops Q n S fuel listed a w := fun inv => by
 clear inv
 revert h hB
 induction fuel generalizing listed a w with
 | zero => intro _ h; exact h
 | succ fuel ih =>
  intro hB h; refine ⟨h.1, fun i hi => wpOp_mono (fun a' w' h' => ⟨fun hin => ?_, ih ?_ h'⟩) (h.2 i hi)⟩
  · have hu := (mem_ready.1 hi).1
    have := List.all_eq_true.1 hB i (List.mem_range.2 hin); rw [getD_both hu] at this
    cases this
  · refine List.all_eq_true.2 fun k hk => ?_
    have := List.all_eq_true.1 hB k hk
    by_cases e : i = k
    · subst e
      exact getD_set_true this
    · rw [getD_set_ne false e]; exact this
theorem wp_region_E {id : Nat} {a : Act} {w : World} (n : Nat) (S : World → Prop) (hm : P.follows .mixedOrders = true) (hS : S w.drew)
  (h : S w.drew → wpE P .any ops Q n S ops.size (Array.replicate ops.size false) a w.drew) : (Code.region id ops true).wp P Q a w :=
 wp_region_any hm (wpAny_of_E _ _ _ _ (h hS ⟨by simp, fun j oj _ hl => (by rw [getD_replicate_false] at hl; cases hl), fun t _ ht => getD_in (by simpa using ht) (getD_replicate_false _ _)⟩))
end
end Go.Tw
namespace Go.Tw
theorem alloc3 (w : World) (o1 o2 o3 : Obj) : (((w.alloc o1).alloc o2).alloc o3).heap[w.heap.size]? = some o1 ∧ (((w.alloc o1).alloc o2).alloc o3).heap[w.heap.size + 1]? = some o2 ∧ (((w.alloc o1).alloc o2).alloc o3).heap[w.heap.size + 2]? = some o3 := by
 refine ⟨(RowKit.Below.heap_alloc _ _ _ (by simp; omega)).trans (heap_alloc2_old w _ _), (RowKit.Below.heap_alloc _ _ _ (by simp)).trans (heap_alloc2_new w _ _), ?_⟩; have := heap_alloc_new ((w.alloc o1).alloc o2) o3
 simpa using this
end Go.Tw
namespace Go.Proofs.YtifcelebfagjbaaGreatDoor
open Go.RowKit Go.Tw Go.Tw.Ord Go.Tw.Po Go.Sort
structure CW (n : Nat) (a b c d : Value) (wr : World) : Prop where
 b0 : wr.heap[n]? = some (.cells #[a, b] 70 (0, 0))
 b1 : wr.heap[n + 1]? = some (.cells #[.slice none 0 0, .slice none 0 0] 70 (0, 0))
 b2 : wr.heap[n + 2]? = some (.cells #[c, d] 70 (0, 0))
theorem CW.step {n B : Nat} {a b c d : Value} {w w' : World} (h : CW n a b c d w) (hb : Below B w w') (hB : n + 2 < B) : CW n a b c d w' :=
 ⟨(hb.block _ (by omega)).trans h.b0, (hb.block _ (by omega)).trans h.b1, (hb.block _ (by omega)).trans h.b2⟩
theorem CW.put {n : Nat} {a b c c' d : Value} {w : World} (h : CW n a b c d w) : CW n a b c' d (w.setCell ⟨n + 1 + 1, 0, none⟩ c') :=
 ⟨(Below.heap_setCell _ _ _ _ (by simp; omega)).trans h.b0, (Below.heap_setCell _ _ _ _ (by simp)).trans h.b1, heap_setCell_same _ _ _ _ _ _ h.b2⟩
theorem CW.put1 {n : Nat} {a b c d d' : Value} {w : World} (h : CW n a b c d w) : CW n a b c d' (w.setCell ⟨n + 1 + 1, 1, none⟩ d') :=
 ⟨(Below.heap_setCell _ _ _ _ (by simp; omega)).trans h.b0, (Below.heap_setCell _ _ _ _ (by simp)).trans h.b1, heap_setCell_same _ _ _ _ _ _ h.b2⟩
set_option maxRecDepth 100000 in
set_option maxHeartbeats 4000000 in
theorem bclone_any (le : List Ent) (ld : List Chg) (ve vd : Value) (w : World) (he : SlIs (tEnt 101) (· < w.heap.size) w ve le) (hd : SlIs (tChg 140) (· < w.heap.size) w vd ld)
  (hle : le.length ≤ 1000000) (hld : ld.length ≤ 1000000) (hps : ∀ e ∈ le, e.ps.length ≤ 1000000) (hls : ∀ x ∈ ld, x.ls.length ≤ 1000000) :
  Calls Tryz.prog 51 #[.agg #[ve, vd]] w fun e w' => ∃ ve' vd' m, e = .returned (.agg #[ve', vd']) ∧ w.heap.size ≤ m ∧ m ≤ w'.heap.size ∧ SlIs (tEnt 101) (fun k => w.heap.size ≤ k ∧ k < m) w' ve' le ∧ NewL (tChg 140) 49 m w' vd' ld ∧ Below w.heap.size w w' := by
 have h0 := alloc3 w (.cells #[ve, vd] 70) (.cells #[.slice none 0 0, .slice none 0 0] 70) (.cells #[.slice none 0 0, .slice none 0 0] 70); have HC := Lib.hid (show CW w.heap.size ve vd (.slice none 0 0) (.slice none 0 0) (((w.alloc (.cells #[ve, vd] 70)).alloc (.cells #[.slice none 0 0, .slice none 0 0] 70)).alloc (.cells #[.slice none 0 0, .slice none 0 0] 70)) from ⟨h0.1, h0.2.1, h0.2.2⟩); have HB0 := Lib.hid (bl_alloc (bl_alloc (bl_alloc (Below.refl w.heap.size w) (.cells #[ve, vd] 70)) (.cells #[.slice none 0 0, .slice none 0 0] 70)) (.cells #[.slice none 0 0, .slice none 0 0] 70)); have HLS := Lib.hid hls; have HPS := Lib.hid hps; obtain ⟨ao, cap, bi, off, rfl, hl, hm, ho⟩ := ent_open he; obtain ⟨ao2, cap2, bi2, off2, rfl, hl2, hm2, ho2⟩ := chg_open hd; have HO := Lib.hid ho; have HO2 := Lib.hid ho2; unfold maxLen at hm hm2; clear he hd ho ho2 h0 hls hps
 go_enter Tryz.func51, Tryz.ntmps51
 go_wp2
 go_loopg [12] le.length (fun g i wr => ∃ (k : Nat) (v3 : Value), k + g = le.length ∧ i = .int .i64 k ∧ CW w.heap.size (.slice ao le.length cap) (.slice ao2 ld.length cap2) v3 (.slice none 0 0) wr ∧ NewL (tEnt 101) 56 (w.heap.size + 3) wr v3 (le.take k) ∧ Below w.heap.size w wr ∧ w.heap.size + 3 ≤ wr.heap.size)
 case atStart => exact ⟨0, _, by omega, rfl, HC.out, NewL.nil, HB0.out, by simp⟩
 case round =>
  obtain ⟨k, v3, hk, rfl, hc, hn, hb1, hsz⟩ := hrel; have HN := Lib.hid hn; have HCW := Lib.hid hc; have HB1 := Lib.hid hb1; obtain ⟨a3, c3, rfl, hc31, hc32⟩ := hn.form; have htl : (le.take k).length = k := by simp; omega
  rw [htl] at HN HCW hc; obtain ⟨c0, c1, -⟩ := blk2 hc.b0; obtain ⟨f0, f1, ff⟩ := blk2 hc.b2; clear hn hc hc31 hc32
  by_cases hlt : k < le.length
  · obtain ⟨rfl, hbw, hbi, hok, hv, hsl, d0, d1, d2⟩ := HO.out wr (.of_below hb1) k hlt
    have hll := HPS.out _ (List.getElem_mem hlt); have HG1 := Lib.hid (show le.take (k + 1) = le.take k ++ [le[k]] from List.take_succ_eq_append_getElem hlt); have k0 : (0 : Int) ≤ (k : Int) := by omega
    have k1 : (k : Int) < (le.length : Int) := by omega
    generalize le[k] = y at *
    obtain ⟨hva, hvn, hvc, hve⟩ : ∃ a n c, hv = .slice a n c := by
     obtain ⟨a, c, _, _, e, -⟩ := hsl; exact ⟨a, _, c, e⟩
    subst hve; have b1 := bl_alloc (Below.refl wr.heap.size wr) (.cells #[.string y.key, .int .i64 y.tm, .slice hva hvn hvc] 56); have hsl1 : SlIs tSI (· < wr.heap.size) wr (.slice hva hvn hvc) y.ps := hsl.keep (fun j (hj : j < w.heap.size) => Nat.lt_of_lt_of_le hj hb1.size) (SameOn.refl _ _); have HCL := Lib.hid (cloneP_any y.ps _ _ (hsl1.step b1) hll); have HBA := Lib.hid b1; have HOK := Lib.hid hok; clear hsl hsl1 b1 hok hb1
    go_wp2_with (fail)
    with_reducible refine HCL.out.mono ?_
    rintro e w2 ⟨h', rfl, hi2, hb2⟩; obtain ⟨ao3, cap3, rfl, -⟩ := hi2.form; have hz2 := hb2.size; have hz3 : (wr.alloc (.cells #[.string y.key, .int .i64 y.tm, .slice hva hvn hvc] 56)).heap.size = wr.heap.size + 1 := by simp
    rw [hz3] at hz2 hi2; have n1 := (hb2.block wr.heap.size (by simp)).trans (heap_alloc_new _ _); obtain ⟨e0, e1, e2, ef⟩ := blk3 n1; have hb3 := bl_trans HBA.out hb2; have g2 := (hb3.block (w.heap.size + 2) (by omega)).trans HCW.out.b2; obtain ⟨q0, q1, qf⟩ := blk2 g2; have HI2 := Lib.hid hi2; have HB3 := Lib.hid hb3; have hl0 : wr.heap.size < w2.heap.size := by omega
    clear hi2 hb2 hz3 n1 g2 HCL hb3 c0 c1 f0 f1 ff d0 d1 d2; have q0' : w2.cell? ⟨w.heap.size + 1 + 1, 0, none⟩ = some (.slice a3 k c3) := q0; clear q0 q1 qf; have b4 : Below wr.heap.size wr (w2.setCell ⟨wr.heap.size, 2, none⟩ (.slice ao3 y.ps.length cap3)) := bl_set HB3.out _ (Nat.le_refl _); have n4 : New (tEnt 101) wr.heap.size (w2.setCell ⟨wr.heap.size, 2, none⟩ (.slice ao3 y.ps.length cap3)) (eCells y (.slice ao3 y.ps.length cap3)) y := newEnt HOK.out ((HI2.out.same (fun j hj => Below.heap_setCell _ _ _ _ (by simp; omega))).mono (by omega)); have HB4 := Lib.hid b4; have HN4 := Lib.hid n4; have HCS := Lib.hid (show ∀ W5, Below (w.heap.size + 3) (w2.setCell ⟨wr.heap.size, 2, none⟩ (.slice ao3 y.ps.length cap3)) W5 → CW w.heap.size (.slice (some ⟨bi, off, none⟩) le.length cap) (.slice ao2 ld.length cap2) (.slice a3 k c3) (.slice none 0 0) W5 ∧ Below (w.heap.size + 3) wr W5 from fun W5 h5 => ⟨HCW.out.step ((b4.mono hsz).trans h5) (by omega), (b4.mono hsz).trans h5⟩); have htl2 : (le.take k).length ≤ 1000000 := by omega
    have HTL := Lib.hid htl2; have h5 : w.heap.size + 1 + 1 ≠ wr.heap.size := by omega
    have h6 : w.heap.size + 1 + 1 < w2.heap.size := by omega
    clear b4 n4 htl2
    go_wp2_with (at_builtin
                 refine wpList_append_new (.tmp 22) (.tmp 24) rfl 66 rfl slEnt rfl HN.out HB4.out (by rw [World.size_setCell]; rfl) HN4.out (by have := HTL.out; omega) (by have := HTL.out; unfold maxLen; omega) hsz ?_; intro v' w5 hn5 hb5; have hf5 := hn5.form; rw [List.length_append, htl] at hf5; obtain ⟨a5, c5, rfl, -⟩ := hf5; obtain ⟨hcw5, hb6⟩ := HCS.out w5 hb5; have g5 := hcw5.b2; obtain ⟨r0, r1, rf⟩ := blk2 g5; have rf' : ∀ j, w5.frozen? ⟨w.heap.size + 1 + 1, j, none⟩ = false := rf; have r0' : w5.cell? ⟨w.heap.size + 1 + 1, 0, none⟩ = some (.slice a3 k c3) := r0; have HN5 := Lib.hid hn5; have HB6 := Lib.hid hb6; have HB7 := Lib.hid (show Below w.heap.size w w5 from HB1.out.trans (hb6.mono (by omega))); have HCW5 := Lib.hid hcw5; have hl5 : w.heap.size + 1 + 1 < w5.heap.size := lt_of_heap g5
                 clear hn5 hb5 hb6 hcw5 g5 r0 r1 rf)
    go_roundg (le.length - (k + 1))
    case measure => omega
    case rel => exact ⟨k + 1, _, by omega, by go_num, HCW5.out.put, by rw [HG1.out]; exact HN5.out.same (fun j hj => Below.heap_setCell _ _ _ _ (by simp; omega)), bl_set (HB7.out) _ (by simp; omega), by simp; have := HB6.out.size; omega⟩
  · have hkd : decide ((k : Int) < (le.length : Int)) = false := by simp; omega
    have HKN := Lib.hid (show NewL (tEnt 101) 56 (w.heap.size + 3) wr (.slice a3 k c3) le by have := HN.out; rwa [List.take_of_length_le (by omega)] at this); clear hb1; obtain ⟨wo, rfl⟩ : ∃ wo : World, wo = wr := ⟨_, rfl⟩; go_wp2
    go_loopg [32] ld.length (fun g i wr => ∃ (j : Nat) (v4 : Value), j + g = ld.length ∧ i = .int .i64 j ∧ CW w.heap.size (.slice ao le.length cap) (.slice ao2 ld.length cap2) (.slice a3 k c3) v4 wr ∧ NewL (tChg 140) 49 wo.heap.size wr v4 (ld.take j) ∧ SameOn (fun b => w.heap.size + 3 ≤ b ∧ b < wo.heap.size) wo wr ∧ Below w.heap.size w wr ∧ wo.heap.size ≤ wr.heap.size)
    case atStart => exact ⟨0, _, by omega, rfl, HCW.out, NewL.nil, SameOn.refl _ _, HB1.out, Nat.le_refl _⟩
    case round =>
     obtain ⟨j, v4, hj, rfl, hc, hn, hsm, hb1, hso⟩ := hrel; have HN2 := Lib.hid hn; have HC2 := Lib.hid hc; have HB2 := Lib.hid hb1; have HSM := Lib.hid hsm; obtain ⟨a4, c4, rfl, hc41, hc42⟩ := hn.form; have htl2 : (ld.take j).length = j := by simp; omega
     rw [htl2] at HN2 HC2 hc; clear hn hsm hc41 hc42
     by_cases hlt2 : j < ld.length
     · obtain ⟨rfl, -, hbi2, hok, hv, hsl, d0, d1, d2, d3, d4, d5, d6⟩ := HO2.out wr (.of_below hb1) j hlt2
       have hll := HLS.out _ (List.getElem_mem hlt2); have HG2 := Lib.hid (show ld.take (j + 1) = ld.take j ++ [ld[j]] from List.take_succ_eq_append_getElem hlt2); have k0 : (0 : Int) ≤ (j : Int) := by omega
       have k1 : (j : Int) < (ld.length : Int) := by omega
       generalize ld[j] = y at *
       obtain ⟨hva, hvn, hvc, hve⟩ : ∃ a n c, hv = .slice a n c := by
        obtain ⟨a, c, _, _, e, -⟩ := hsl; exact ⟨a, _, c, e⟩
       subst hve; have hsl1 : SlIs tSI (· < wr.heap.size) wr (.slice hva hvn hvc) y.ls := hsl.keep (fun q (hq : q < w.heap.size) => Nat.lt_of_lt_of_le hq hb1.size) (SameOn.refl _ _); have HSL := Lib.hid hsl1; have HOK := Lib.hid hok; clear hsl hsl1 hok hb1; obtain ⟨c0, c1, -⟩ := blk2 hc.b0
       go_upto_region 11 with (fail)
       have hb3 := bl_alloc (Below.refl wr.heap.size wr) (.cells #[.string y.key, .string y.veh, .string y.sys, .int .i64 y.cls, .int .i64 y.tm, .slice hva hvn hvc, .int .i64 y.c] 49); have n3 := heap_alloc_new wr (.cells #[.string y.key, .string y.veh, .string y.sys, .int .i64 y.cls, .int .i64 y.tm, .slice hva hvn hvc, .int .i64 y.c] 49); generalize wr.alloc (.cells #[.string y.key, .string y.veh, .string y.sys, .int .i64 y.cls, .int .i64 y.tm, .slice hva hvn hvc, .int .i64 y.c] 49) = wb at hb3 n3 ⊢; have HB3 := Lib.hid hb3; have g3 := (hb3.block (w.heap.size + 2) (by omega)).trans HC2.out.b2; have HK1 := Lib.hid (show ∀ w', Below wb.heap.size wb w' → w'.cell? ⟨w.heap.size + 1 + 1, 1, none⟩ = some (.slice a4 j c4) from fun w' hw' => (hw'.cell (p := ⟨w.heap.size + 2, 1, none⟩) (lt_of_heap g3)).trans (blk2 g3).2.1)
       have HK7 := Lib.hid (show ∀ w', Below wb.heap.size wb w' → w'.cell? ⟨wr.heap.size, 0, none⟩ = some (.string y.key) ∧ w'.cell? ⟨wr.heap.size, 1, none⟩ = some (.string y.veh) ∧ w'.cell? ⟨wr.heap.size, 2, none⟩ = some (.string y.sys) ∧ w'.cell? ⟨wr.heap.size, 3, none⟩ = some (.int .i64 y.cls) ∧ w'.cell? ⟨wr.heap.size, 4, none⟩ = some (.int .i64 y.tm) ∧ w'.cell? ⟨wr.heap.size, 5, none⟩ = some (.slice hva hvn hvc) ∧ w'.cell? ⟨wr.heap.size, 6, none⟩ = some (.int .i64 y.c) from fun w' hw' => by
        obtain ⟨z0, z1, z2, z3, z4, z5, z6, -⟩ := blk7 ((hw'.block _ (lt_of_heap n3)).trans n3)
        exact ⟨z0, z1, z2, z3, z4, z5, z6⟩)
       have HCC := Lib.hid (show ∀ W, Below wb.heap.size wb W → Calls Tryz.prog 52 #[.agg #[.string y.key, .string y.veh, .string y.sys, .int .i64 y.cls, .int .i64 y.tm, .slice hva hvn hvc, .int .i64 y.c]] W fun e w' => ∃ h', e = .returned (.agg #[.string y.key, .string y.veh, .string y.sys, .int .i64 y.cls, .int .i64 y.tm, h', .int .i64 y.c]) ∧ NewL tSI 140 W.heap.size w' h' y.ls ∧ Below W.heap.size W w' from fun W hW => cloneC_any y _ W (HSL.out.step (bl_trans HB3.out hW)) hll); clear hb3 g3 n3 c0 c1 d0 d1 d2 d3 d4 d5 d6; refine wp_region_E 5 (fun w' => Below wb.heap.size wb w') (by kernel_rfl) ((by (repeat (first | (with_reducible exact Below.refl _ _) | (with_reducible apply bl_drewN) | (with_reducible apply bl_alloc) | (with_reducible apply Below.drew))); done)) (fun hHeld => ?_); refine wpE_take (i := 0) (v := ?_) rfl (by kernel_rfl) (fun _ _ _ h => h) (Or.inl ⟨by kernel_rfl, ?_⟩) (by assumption) ?_
       rotate_left; focus (intro w9 hS9; (try dsimp only at hS9); go_simp; (try with_reducible rfl)); (try simp only [gkA, gkB, gkC, Act.put, gkD, gkE, gkF])
       refine wpE_take (i := 1) (v := ?_) rfl (by kernel_rfl) (fun _ _ _ h => h) (Or.inl ⟨by kernel_rfl, ?_⟩) (by assumption) ?_
       rotate_left; focus (intro w9 hS9; have z0 := HK1.out w9 hS9; clear hS9; go_simp; (try with_reducible rfl)); (try simp only [gkA, gkB, gkC, Act.put, gkD, gkE, gkF])
       refine wpE_take (i := 2) (v := ?_) rfl (by kernel_rfl) (fun _ _ _ h => h) (Or.inl ⟨by kernel_rfl, ?_⟩) (by assumption) ?_
       rotate_left; focus (intro w9 hS9; obtain ⟨z0, z1, z2, z3, z4, z5, z6⟩ := HK7.out w9 hS9; clear hS9; go_simp; (try with_reducible rfl)); (try simp only [gkA, gkB, gkC, Act.put, gkD, gkE, gkF])
       refine wpE_ready (rs := [3]) (by kernel_rfl) (by kernel_rfl) ?_; refine AllReadyE.cons rfl (fun K hK => ?_) AllReadyE.nil; go_simp
       with_reducible refine (HCC.out _ (by (repeat (first | (with_reducible exact Below.refl _ _) | (with_reducible apply bl_drewN) | (with_reducible apply bl_alloc) | (with_reducible apply Below.drew))); done)).mono ?_
       rintro e w5 ⟨h', rfl, hn5, hb5⟩; obtain ⟨a5, c5, rfl, -⟩ := hn5.form; have HN5 := Lib.hid (show NewL tSI 140 wb.heap.size w5 (.slice a5 y.ls.length c5) y.ls from hn5); have HB5 := Lib.hid (show Below wb.heap.size wb w5 from bl_trans (by (repeat (first | (with_reducible exact Below.refl _ _) | (with_reducible apply bl_drewN) | (with_reducible apply bl_alloc) | (with_reducible apply Below.drew))); done) hb5); clear hn5 hb5 HCC; clear hHeld; refine hK.out _ _ (HB5.out) (fun hHeld => ?_); clear hK K; refine wpE_ready (rs := [4]) (by kernel_rfl) (by kernel_rfl) ?_; refine AllReadyE.cons rfl (fun K hK => ?_) AllReadyE.nil; go_simp; clear hHeld; refine hK.out _ _ (bl_trans HB5.out (by (repeat (first | (with_reducible exact Below.refl _ _) | (with_reducible apply bl_drewN) | (with_reducible apply bl_alloc) | (with_reducible apply Below.drew))); done)) (fun hHeld => ?_); clear hK K; clear hHeld; refine wpE_out (by kernel_rfl) ?_; refine wpAny_ready (rs := [5]) (by kernel_rfl) (by simp) ?_; refine AllReady.cons rfl (fun K hK => ?_) AllReady.nil; rw [if_pos (show _ = true by kernel_rfl)]; have hj6 : (ld.take j).length ≤ 1000000 := by omega
       refine wp_append_new (w1 := wr) (.tmp 37) (.tmp 40) 52 rfl slChg (by go_simp) HN2.out (by first | exact bl_trans HB3.out HB5.out | exact bl_trans HB3.out (bl_trans HB5.out (by (repeat (first | (with_reducible exact Below.refl _ _) | (with_reducible apply bl_drewN) | (with_reducible apply bl_alloc) | (with_reducible apply Below.drew))); done))) (by go_simp) (newChg HOK.out (HN5.out.mono HB3.out.size)) (by omega) (by unfold maxLen; omega) hso ?_; intro v6 w6 hn6 hb6; have hf6 := hn6.form; rw [List.length_append, htl2] at hf6; obtain ⟨a6, c6, rfl, -⟩ := hf6; have hbx : Below (w.heap.size + 3) wr w6 := ((bl_trans HB3.out HB5.out).mono (by omega)).trans (hb6.mono hsz); have hsmx : SameOn (fun b => w.heap.size + 3 ≤ b ∧ b < wo.heap.size) wo w6 := HSM.out.trans (fun b hb => ((hb6.block b (by omega)).trans ((bl_trans HB3.out HB5.out).block b (by omega)))); have hcx := HC2.out.step hbx (by omega); have g6 := hcx.b2; obtain ⟨r0, r1, rf⟩ := blk2 g6; have rf' : ∀ j, w6.frozen? ⟨w.heap.size + 1 + 1, j, none⟩ = false := rf; have r1' : w6.cell? ⟨w.heap.size + 1 + 1, 1, none⟩ = some (.slice a4 j c4) := r1; have hl6 : w.heap.size + 1 + 1 < w6.heap.size := lt_of_heap g6; have HN6 := Lib.hid hn6; have HBX := Lib.hid (show Below w.heap.size w w6 from HB2.out.trans (hbx.mono (by omega))); have HSX := Lib.hid hsmx; have HCX := Lib.hid hcx; have HZX := Lib.hid (show wo.heap.size ≤ w6.heap.size from Nat.le_trans hso hbx.size); clear hn6 hb6 hbx hsmx hcx g6 r0 r1 rf; refine hK _ _ ?_; clear hK K
       (try simp only [gkA, gkB, gkC, Act.put, gkD, gkE, gkF])
       refine wpAny_ready (rs := [6]) (by kernel_rfl) (by simp) ?_; refine AllReady.cons rfl (fun K hK => ?_) AllReady.nil; rw [if_pos (show _ = true by kernel_rfl)]; go_simp; refine hK _ _ ?_; clear hK K; refine wpAny_ready (rs := [7]) (by kernel_rfl) (by simp) ?_; refine AllReady.cons rfl (fun K hK => ?_) AllReady.nil; rw [if_pos (show _ = true by kernel_rfl)]; go_simp; refine hK _ _ ?_; clear hK K; refine wpAny_done (by kernel_rfl) ?_ _; go_wp2
       go_roundg (ld.length - (j + 1))
       case measure => omega
       case rel => exact ⟨j + 1, _, by omega, by go_num, HCX.out.put1, by rw [HG2.out]; exact HN6.out.same (fun q hq => Below.heap_setCell _ _ _ _ (by simp; omega)), HSX.out.trans (fun q hq => Below.heap_setCell _ _ _ _ (by simp; omega)), bl_set HBX.out _ (by simp; omega), by simpa using HZX.out⟩
     · have hkd2 : decide ((j : Int) < (ld.length : Int)) = false := by simp; omega
       obtain rfl : k = le.length := by omega
       obtain rfl : j = ld.length := by omega
       have HN3 := Lib.hid (show NewL (tChg 140) 49 wo.heap.size wr (.slice a4 ld.length c4) ld by have := HN2.out; rwa [List.take_length] at this); obtain ⟨s0, s1, sf⟩ := blk2 hc.b1; obtain ⟨t0, t1, -⟩ := blk2 hc.b2; have t0' : wr.cell? ⟨w.heap.size + 1 + 1, 0, none⟩ = some (.slice a3 le.length c3) := t0; have t1' : wr.cell? ⟨w.heap.size + 1 + 1, 1, none⟩ = some (.slice a4 ld.length c4) := t1; have ls : w.heap.size + 1 < wr.heap.size := by omega
       clear hb1 t0 t1; go_wp2; refine bodyPost_ret (v := .agg #[.slice a3 le.length c3, .slice a4 ld.length c4]) (by simp [results, Tryz.results51, go_sem, s0, s1]) rfl ⟨_, _, wo.heap.size, rfl, by omega, by simpa using hso, ?_, ?_, ?_⟩
       · refine HKN.out.sl.keep (fun q hq => ⟨by omega, hq.2⟩) ((HSM.out.mono (fun q hq => hq)).trans (fun q hq => ?_))
         exact (Below.heap_setCell _ _ _ _ (by simp; omega)).trans (Below.heap_setCell _ _ _ _ (by simp; omega))
       · exact HN3.out.same (fun q hq => (Below.heap_setCell _ _ _ _ (by simp; omega)).trans (Below.heap_setCell _ _ _ _ (by simp; omega)))
       · exact bl_set (bl_set HB2.out _ (by simp)) _ (by simp)
end Go.Proofs.YtifcelebfagjbaaGreatDoor
namespace Go.Proofs.YtifcelebfagjbaaGreatDoor
open Go.RowKit Go.Tw Go.Tw.Ord Go.Tw.Po Go.Sort Go.Maps
structure PW (n : Nat) (a : Value) (e : Ent) (p : Value) (wr : World) : Prop where
 b0 : wr.heap[n]? = some (.cells #[a] 68 (0, 0))
 b1 : wr.heap[n + 1]? = some (.cells #[.string e.key, .int .i64 e.tm, p] 56 (0, 0))
 b2 : wr.heap[n + 2]? = some (.cells #[.slice none 0 0] 68 (0, 0))
theorem PW.step {n B : Nat} {a p : Value} {e : Ent} {w w' : World} (h : PW n a e p w) (hb : Below B w w') (hB : n + 2 < B) : PW n a e p w' :=
 ⟨(hb.block _ (by omega)).trans h.b0, (hb.block _ (by omega)).trans h.b1, (hb.block _ (by omega)).trans h.b2⟩
theorem PW.put {n : Nat} {a p : Value} {e : Ent} {w : World} (h : PW n a e p w) {q : Addr} (hq : n + 2 < q.block) (u : Value) : PW n a e p (w.setCell q u) :=
 ⟨(Below.heap_setCell _ _ _ _ (by omega)).trans h.b0, (Below.heap_setCell _ _ _ _ (by omega)).trans h.b1, (Below.heap_setCell _ _ _ _ (by omega)).trans h.b2⟩
theorem PW.grown {n r : Nat} {a p : Value} {e : Ent} {w w' : World} (h : PW n a e p w) (hg : w.grownBy w' (some r)) (hr : n + 2 < r) : PW n a e p w' :=
 ⟨grown_at hg h.b0 (by intro q; injection q with q; omega), grown_at hg h.b1 (by intro q; injection q with q; omega), grown_at hg h.b2 (by intro q; injection q with q; omega)⟩
theorem sameK (s t : ByteArray) : (Lit.string (kb s)).sameKey (.string (kb t)) = decide (s = t) := by
 by_cases e : s = t
 · subst e; rw [WideAt.sameKey_self (isKey _)]; simp
 · rw [Maps.sameKey_ne (by intro q; injection q with q; exact e (kb_inj q)), decide_eq_false e]
theorem enc_kb (s : ByteArray) : encStr (kb s) = .string s := by
 unfold encStr kb; simp
theorem bm_some {ps : List SI} {s : ByteArray} {c : Int} (h : bm ps s = some c) : c = sumL (ps.filter fun p => decide (p.s = s)) ∧ ∃ p ∈ ps, p.s = s := by
 unfold bm at h
 split at h
 · rename_i ha
   obtain ⟨p, hp, hq⟩ := List.any_eq_true.1 ha; exact ⟨(Option.some.inj h).symm, p, hp, by simpa using hq⟩
 · cases h
theorem bm_is {ps : List SI} {p : SI} (h : p ∈ ps) : (bm ps p.s).isSome = true := by
 unfold bm; rw [if_pos (List.any_eq_true.2 ⟨p, h, by simp⟩)]
 rfl
theorem post_chk {es : List Ent} {e : Ent} (h : entC e ≠ 0) : postL es e = (es, entC e) := by unfold postL; rw [if_pos h]
theorem post_key {es : List Ent} {e : Ent} (h : entC e = 0) (h2 : (es.any fun x => decide (x.key = e.key)) = true) : postL es e = (es, 9) := by unfold postL; rw [if_neg (by simp [h]), if_pos h2]
theorem post_bad {es : List Ent} {e : Ent} (h : entC e = 0) (h2 : (es.any fun x => decide (x.key = e.key)) = false) (h3 : (e.ps.all fun p => fitsM (balL p.s es + balE p.s e)) = false) : postL es e = (es, 13) := by unfold postL; rw [if_neg (by simp [h]), if_neg (by simp [h2]), if_neg (by simp [h3])]
theorem post_ok {es : List Ent} {e : Ent} (h : entC e = 0) (h2 : (es.any fun x => decide (x.key = e.key)) = false) (h3 : (e.ps.all fun p => fitsM (balL p.s es + balE p.s e)) = true) : postL es e = (es ++ [e], 0) := by unfold postL; rw [if_neg (by simp [h]), if_neg (by simp [h2]), if_pos h3]
theorem fndE_is {es : List Ent} {s : ByteArray} : (fndE es s).isSome = es.any fun x => decide (x.key = s) := by
 unfold fndE; rw [Bool.eq_iff_iff, List.find?_isSome]; simp
theorem invKs {key : Value} {kl : Lit} (h : keyOf Tryz.prog 9 key = some kl) : ∃ x, key = encStr x := by
 obtain ⟨x, hx, -⟩ := Maps.keyOf_str Tryz.underlying9 h; exact ⟨x, hx⟩
theorem invVi {v : Value} {y : DataW Unit × List MemPlace} (h : plainElem Tryz.prog 3 v = some y) : ∃ c, v = Value.int .i64 c := by
 obtain ⟨c, rfl, -⟩ := plainElem_int_inv Tryz.underlying3 h; exact ⟨c, rfl⟩
set_option maxRecDepth 100000 in
set_option maxHeartbeats 4000000 in
theorem post_any (B : Nat) (es : List Ent) (ve : Value) (e : Ent) (pe : Value) (w : World) (hB : B ≤ w.heap.size) (hs : SlIs (tEnt 101) (· < B) w ve es) (hp : SlIs tSI (· < w.heap.size) w pe e.ps) (he : EntOk e) (hes : ∀ x ∈ es, EOk x) (hl : es.length ≤ 1000) (hep : e.ps.length ≤ 4) :
  Calls Tryz.prog 66 #[.agg #[ve], .agg #[.string e.key, .int .i64 e.tm, pe]] w fun r w' => (∃ ve', r = .returned (.tuple #[.agg #[ve'], .int .i64 (postL es e).2]) ∧ SlIs (tEnt 101) (fun k => (k < B ∨ w.heap.size ≤ k) ∧ k < w'.heap.size) w' ve' (postL es e).1) ∧ Below w.heap.size w w' := by
 have h : SlIs (tEnt 101) (· < w.heap.size) w ve es := hs.keep (fun k (hk : k < B) => Nat.lt_of_lt_of_le hk hB) (SameOn.refl _ _); have HEB := Lib.hid hs; clear hs; have h0 := alloc3 w (.cells #[ve] 68) (.cells #[.string e.key, .int .i64 e.tm, pe] 56) (.cells #[.slice none 0 0] 68); have HP := Lib.hid (show PW w.heap.size ve e pe (((w.alloc (.cells #[ve] 68)).alloc (.cells #[.string e.key, .int .i64 e.tm, pe] 56)).alloc (.cells #[.slice none 0 0] 68)) from ⟨h0.1, h0.2.1, h0.2.2⟩); have HB0 := Lib.hid (bl_alloc (bl_alloc (bl_alloc (Below.refl w.heap.size w) (.cells #[ve] 68)) (.cells #[.string e.key, .int .i64 e.tm, pe] 56)) (.cells #[.slice none 0 0] 68)); have HE := Lib.hid h; have HPS := Lib.hid hp; have HES := Lib.hid hes; have hs0 : w.heap.size + 2 < (((w.alloc (.cells #[ve] 68)).alloc (.cells #[.string e.key, .int .i64 e.tm, pe] 56)).alloc (.cells #[.slice none 0 0] 68)).heap.size := by simp
 have HCK := Lib.hid (lcheck_any e pe _ he (hp.step HB0.out)); obtain ⟨ao, cap, bi, off, rfl, hl1, hm1, heo⟩ := ent_open h; have HEO := Lib.hid heo; unfold maxLen at hm1; obtain ⟨ao2, cap2, bi2, off2, rfl, hl2, hm2, -⟩ := si_open hp; have HOK := Lib.hid he; clear h hp hes h0 he heo; obtain ⟨z, hz⟩ : ∃ z, entC e = z := ⟨_, rfl⟩; rw [hz] at HCK
 by_cases hz0 : z = 0
 case neg =>
  have HR := Lib.hid (post_chk (es := es) (by rw [hz]; exact hz0)); rw [hz] at HR; have hz1 : (z != 0) = true := by simpa using hz0
  clear hz hz0
  go_enter Tryz.func66, Tryz.ntmps66
  go_wp2_with (fail)
  with_reducible refine HCK.out.mono ?_
  rintro r w2 ⟨rfl, hb⟩; have HP2 := Lib.hid (HP.out.step hb hs0); have HB2 := Lib.hid (bl_trans HB0.out hb); have c0 := (blk1 HP2.out.b0).1; obtain ⟨c2, cf⟩ := blk1 HP2.out.b2; have hlt := lt_of_heap HP2.out.b2; clear hb HCK HP hs0; go_wp2; have g5 : (w2.setCell ⟨w.heap.size + 1 + 1, 0, none⟩ (.slice ao es.length cap)).heap[w.heap.size + 1 + 1]? = some (.cells #[.slice ao es.length cap] 68 (0, 0)) := heap_setCell_same _ _ _ _ _ _ HP2.out.b2; have k5 := (blk1 g5).1; have b5 : Below w.heap.size w (w2.setCell ⟨w.heap.size + 1 + 1, 0, none⟩ (.slice ao es.length cap)) := bl_set HB2.out _ (by simp only; omega); refine bodyPost_ret (v := .tuple #[.agg #[.slice ao es.length cap], .int .i64 z]) (by simp [results, Tryz.results66, go_sem, k5]) rfl ⟨⟨_, by rw [HR.out], ?_⟩, b5⟩; rw [HR.out]; exact HEB.out.keep (fun k (hk : k < B) => ⟨.inl hk, Nat.lt_of_lt_of_le hk (Nat.le_trans hB b5.size)⟩) (.of_below (b5.mono hB))
 subst hz0; have hz1 : ((0 : Int) != 0) = false := rfl
 go_enter Tryz.func66, Tryz.ntmps66
 go_wp2_with (fail)
 with_reducible refine HCK.out.mono ?_
 rintro r w2 ⟨rfl, hb⟩; have HP2 := Lib.hid (HP.out.step hb hs0); have HB2 := Lib.hid (bl_trans HB0.out hb); have c0 := (blk1 HP2.out.b0).1; obtain ⟨d0, d1, d2, -⟩ := blk3 HP2.out.b1; obtain ⟨c2, cf⟩ := blk1 HP2.out.b2; have hlt := lt_of_heap HP2.out.b2; clear hb HCK HP hs0; have HFI := Lib.hid (lfind_any es (.slice ao es.length cap) e.key w2 (HE.out.step HB2.out) (fun x hx => by have := (HES.out x hx).ps; omega)); rw [fndE_is] at HFI; obtain ⟨q, hq⟩ : ∃ q, (es.any fun x => decide (x.key = e.key)) = q := ⟨_, rfl⟩; rw [hq] at HFI
 go_wp2_with (fail)
 with_reducible refine HFI.out.mono ?_
 rintro r w3 ⟨⟨xa, xn, xc, rfl⟩, hb⟩; generalize ((fndE es e.key).getD zeroE).key = fk at *; generalize ((fndE es e.key).getD zeroE).tm = ft at *; have HP3 := Lib.hid (HP2.out.step hb hlt); have HB3 := Lib.hid (bl_trans HB2.out hb); have hlt3 := lt_of_heap HP3.out.b2; have l0 : w.heap.size < w3.heap.size := by omega
 have l1 : w.heap.size + 1 < w3.heap.size := by omega
 have l2 : w.heap.size + 1 + 1 < w3.heap.size := by omega
 clear hb c0 d0 d1 d2 c2 cf HFI HP2 HB2 hlt; have c0 := (blk1 HP3.out.b0).1; obtain ⟨d0, d1, d2, -⟩ := blk3 HP3.out.b1; obtain ⟨c2, cf⟩ := blk1 HP3.out.b2
 cases q with
 | true =>
  have HR := Lib.hid (post_key hz hq); clear hz hq; go_wp2; have g5 := alloc1_old (.cells #[.string fk, .int .i64 ft, .slice xa xn xc] 56) (show (w3.setCell ⟨w.heap.size + 1 + 1, 0, none⟩ (.slice ao es.length cap)).heap[w.heap.size + 1 + 1]? = some (.cells #[.slice ao es.length cap] 68 (0, 0)) from heap_setCell_same _ _ _ _ _ _ HP3.out.b2); have k5 := (blk1 g5).1; have b5 : Below w.heap.size w ((w3.setCell ⟨w.heap.size + 1 + 1, 0, none⟩ (.slice ao es.length cap)).alloc (.cells #[.string fk, .int .i64 ft, .slice xa xn xc] 56)) := bl_alloc (bl_set HB3.out _ (by simp only; omega)) _; refine bodyPost_ret (v := .tuple #[.agg #[.slice ao es.length cap], .int .i64 9]) (by simp [results, Tryz.results66, go_sem, k5]) rfl ⟨⟨_, by rw [HR.out], ?_⟩, b5⟩; rw [HR.out]; exact HEB.out.keep (fun k (hk : k < B) => ⟨.inl hk, Nat.lt_of_lt_of_le hk (Nat.le_trans hB b5.size)⟩) (.of_below (b5.mono hB))
 | false =>
  have hA := bl_alloc (Below.refl w3.heap.size w3) (.cells #[.string fk, .int .i64 ft, .slice xa xn xc] 56); have HBA := Lib.hid (bl_trans HB3.out hA); have HPA := Lib.hid (HP3.out.step hA hlt3); have hltA := lt_of_heap HPA.out.b2; have HM1 := Lib.hid (balances_any es (.slice ao es.length cap) (w3.alloc (.cells #[.string fk, .int .i64 ft, .slice xa xn xc] 56)) (HE.out.keep (fun k (hk : k < w.heap.size) => Nat.lt_of_lt_of_le hk HBA.out.size) (.of_below HBA.out)) ⟨by have := (LOk.of HES.out hl).len; omega, (LOk.of HES.out hl).fit⟩)
  go_wp2_with (fail)
  with_reducible refine HM1.out.mono ?_
  rintro r w4 ⟨⟨M1, D1, rfl, hm1, hd1, hM1⟩, hb⟩; have HP4 := Lib.hid (HPA.out.step hb hltA); have HB4 := Lib.hid (bl_trans HBA.out hb); have hlt4 := lt_of_heap HP4.out.b2; have HMM := Lib.hid hm1; have HDD := Lib.hid hd1; have hM1' : w.heap.size + 3 ≤ M1 := by omega
  clear hA hb c0 d0 d1 d2 c2 cf HM1 HP3 HB3 hm1 hd1 HPA HBA; have l0 : w.heap.size < w4.heap.size := by omega
  have l1 : w.heap.size + 1 < w4.heap.size := by omega
  have l2 : w.heap.size + 1 + 1 < w4.heap.size := by omega
  have c0 := (blk1 HP4.out.b0).1; obtain ⟨d0, d1, d2, -⟩ := blk3 HP4.out.b1; obtain ⟨c2, cf⟩ := blk1 HP4.out.b2; have hfe := ent_facts hz
  have HM2 := Lib.hid (balances_any [e] (.slice (some ⟨w4.heap.size, 0, none⟩) 1 1) (w4.alloc (.cells #[.string e.key, .int .i64 e.tm, .slice ao2 e.ps.length cap2] 56))
   ((SlIs.single (T := tEnt 101) (S := (· < w.heap.size)) (cs := #[.string e.key, .int .i64 e.tm, .slice ao2 e.ps.length cap2]) (tEnt_mk HOK.out (HPS.out.keep (fun _ h => h) (.of_below HB4.out))) (fun k hk => Nat.lt_of_lt_of_le hk HB4.out.size)).keep (fun k hk => by
    have := HB4.out.size
    rcases hk with hk | hk
    · simp; omega
    · simp; omega) (SameOn.refl _ _))
   ⟨by simp [posL]; omega, by have := hfe.2.2.2.1; simpa [posL] using this⟩)
  go_wp2_with (fail)
  with_reducible refine HM2.out.mono ?_
  rintro r w5 ⟨⟨M2, D2, rfl, hm2, hd2, hM2⟩, hb⟩; have hA := bl_alloc (Below.refl w4.heap.size w4) (.cells #[.string e.key, .int .i64 e.tm, .slice ao2 e.ps.length cap2] 56); have hb45 := bl_trans hA hb; have HP5 := Lib.hid (HP4.out.step hb45 hlt4); have HB5 := Lib.hid (bl_trans HB4.out hb45); have HM5 := Lib.hid (show AmtMap w5 M1 4004 D1 from own_below HMM.out hb45); have HM6 := Lib.hid hm2; have hpe : posL [e] = e.ps := by simp [posL]
  rw [hpe] at hd2; have HD2 := Lib.hid (show Po.Holds D2 (bm e.ps) from hd2); have h12 : M1 < M2 := by have := HMM.out.lt; simp at hM2; omega
  have h2w : M2 < w5.heap.size := hm2.lt; have HFE := Lib.hid hfe.2.2.2.1; have HLE := Lib.hid (LOk.of HES.out hl); clear hA hb hb45 hm2 hd2 HM2 HMM c0 d0 d1 d2 c2 cf HP4 HB4 hfe l0 l1 l2
  go_wp2_with (first
   | (at_range; refine wpList_range_own _ rfl _ 175 rfl 9 3 keyedS Tryz.underlying175 _ M2 4004 D2 rfl HM6.out ?_; intro w6 hrg0 hg0 hs0)
   | go_in)
  go_frame
  have hb6 : Below w5.heap.size w5 w6 := (Below.refl _ _).grown hg0 (Nat.le_refl _) (fun j hj => by cases hj); obtain ⟨r, hr⟩ : ∃ r, w5.heap.size = r := ⟨_, rfl⟩; have HP6 := Lib.hid (HP5.out.step hb6 (lt_of_heap HP5.out.b2)); have HB6 := Lib.hid (bl_trans HB5.out hb6); have HM7 := Lib.hid (show AmtMap w6 M1 4004 D1 from own_below HM5.out hb6); rw [hr] at hrg0 hs0 h2w ⊢; have h0r : w.heap.size + 2 < r := by have := lt_of_heap HP5.out.b2; omega
  clear hb6 hr HP5 HB5 HM5 HM6
  go_loopw [10, 11] (fun _ _ wr => ∃ (left : Lit → Bool) (cnt : Nat), wr.ranges Tryz.prog 9 (plainElem Tryz.prog 3) M2 r 4004 D2 left cnt ∧ AmtMap wr M1 4004 D1 ∧ Hid (∀ s, (bm e.ps s).isSome = true → left (.string (kb s)) = false → fitsM (balL s es + balE s e) = true) ∧ PW w.heap.size (.slice ao es.length cap) e (.slice ao2 e.ps.length cap2) wr ∧ Below w.heap.size w wr)
   (fun _ _ wr => wr.rangeLeft M2 r)
  case atStart => exact ⟨_, _, hrg0, HM7.out, Lib.hid (fun s h1 h2 => by rw [HD2.out.has s, h1] at h2; cases h2), HP6.out, HB6.out⟩
  case round =>
   obtain ⟨left, cnt, hrg, hM, HF, hpw, hbl⟩ := hrel
   go_wp2_with (first
    | (at_next; refine wpList_next_ranges _ rfl _ rfl 9 keyedS (plainElem Tryz.prog 3) encStr (Value.int .i64) (fun _ _ h => invKs h) (fun _ _ h => invVi h) M2 r 4004 D2 _ _ rfl hrg ?_ ?_)
    | go_in)
   · intro hc0 hl0
     have HR := Lib.hid (post_ok hz hq (List.all_eq_true.2 fun p hp => HF.out p.s (bm_is hp) (hl0 _))); have HPO := Lib.hid hpw; have HBO := Lib.hid hbl; have hlo := lt_of_heap hpw.b2; clear hc0 hl0 hrg hM HF hpw hbl hz hq hrg0 hg0 hs0 HM7 HP6 HB6 HDD HD2 HLE; obtain ⟨wo, rfl⟩ : ∃ wo : World, wo = wr := ⟨_, rfl⟩; have l0 : w.heap.size < wo.heap.size := by omega
     have c0 := (blk1 HPO.out.b0).1; go_wp2; clear c0
     go_loopg [53] es.length (fun g i wr => ∃ (k : Nat) (v3 : Value), k + g = es.length ∧ i = .int .i64 k ∧ PW w.heap.size (.slice ao es.length cap) e (.slice ao2 e.ps.length cap2) wr ∧ wr.heap[wo.heap.size]? = some (.cells #[v3] 68 (0, 0)) ∧ NewL (tEnt 101) 56 (wo.heap.size + 1) wr v3 (es.take k) ∧ Below w.heap.size w wr ∧ wo.heap.size + 1 ≤ wr.heap.size)
     case atStart => exact ⟨0, _, by omega, rfl, HPO.out.step (bl_alloc (Below.refl wo.heap.size wo) _) (by omega), heap_alloc_new _ _, NewL.nil, bl_alloc HBO.out _, by simp⟩
     case round =>
      obtain ⟨k, v3, hk, rfl, hpw, hob, hn, hbl, hso⟩ := hrel; have HN2 := Lib.hid hn; have HPW := Lib.hid hpw; have HB2 := Lib.hid hbl; have HOB := Lib.hid hob; obtain ⟨a4, c4, rfl, -⟩ := hn.form; have htl2 : (es.take k).length = k := by simp; omega
      rw [htl2] at HN2 HOB hob; clear hn hpw
      by_cases hlt2 : k < es.length
      · obtain ⟨rfl, -, hbi2, hok, hv, hsl, d0, d1, d2⟩ := HEO.out wr (.of_below hbl) k hlt2
        have hll := (HES.out _ (List.getElem_mem hlt2)).ps; have HG2 := Lib.hid (show es.take (k + 1) = es.take k ++ [es[k]] from List.take_succ_eq_append_getElem hlt2); have k0 : (0 : Int) ≤ (k : Int) := by omega
        have k1 : (k : Int) < (es.length : Int) := by omega
        generalize es[k] = y at *
        obtain ⟨hva, hvn, hvc, hve⟩ : ∃ a n c, hv = .slice a n c := by
         obtain ⟨a, c, _, _, e, -⟩ := hsl; exact ⟨a, _, c, e⟩
        subst hve; have hsl1 : SlIs tSI (· < wr.heap.size) wr (.slice hva hvn hvc) y.ps := hsl.keep (fun q (hq : q < w.heap.size) => Nat.lt_of_lt_of_le hq hbl.size) (SameOn.refl _ _); have HSL := Lib.hid hsl1; have HOKY := Lib.hid hok; clear hsl hsl1 hok hbl
        go_upto_region 17 with (fail)
        have hb3 := bl_alloc (Below.refl wr.heap.size wr) (.cells #[.string y.key, .int .i64 y.tm, .slice hva hvn hvc] 56); have n3 := heap_alloc_new wr (.cells #[.string y.key, .int .i64 y.tm, .slice hva hvn hvc] 56); generalize wr.alloc (.cells #[.string y.key, .int .i64 y.tm, .slice hva hvn hvc] 56) = wb at hb3 n3 ⊢; have HB3 := Lib.hid hb3; have g3 := (hb3.block wo.heap.size (by omega)).trans HOB.out; have HK1 := Lib.hid (show ∀ w', Below wb.heap.size wb w' → w'.cell? ⟨wo.heap.size, 0, none⟩ = some (.slice a4 k c4) from fun w' hw' => (blk1 ((hw'.block _ (lt_of_heap g3)).trans g3)).1)
        have HK3 := Lib.hid (show ∀ w', Below wb.heap.size wb w' → w'.cell? ⟨wr.heap.size, 0, none⟩ = some (.string y.key) ∧ w'.cell? ⟨wr.heap.size, 1, none⟩ = some (.int .i64 y.tm) ∧ w'.cell? ⟨wr.heap.size, 2, none⟩ = some (.slice hva hvn hvc) from fun w' hw' => by
         obtain ⟨z0, z1, z2, -⟩ := blk3 ((hw'.block _ (lt_of_heap n3)).trans n3)
         exact ⟨z0, z1, z2⟩)
        have HCC := Lib.hid (show ∀ W, Below wb.heap.size wb W → Calls Tryz.prog 106 #[.agg #[.string y.key, .int .i64 y.tm, .slice hva hvn hvc]] W fun e w' => ∃ h', e = .returned (.agg #[.string y.key, .int .i64 y.tm, h']) ∧ NewL tSI 101 W.heap.size w' h' y.ps ∧ Below W.heap.size W w' from fun W hW => cloneE_any y _ W ((HSL.out.step HB3.out).step hW) (by omega)); clear hb3 g3 n3 d0 d1 d2; refine wp_region_E 5 (fun w' => Below wb.heap.size wb w') (by kernel_rfl) ((by (repeat (first | (with_reducible exact Below.refl _ _) | (with_reducible apply bl_drewN) | (with_reducible apply bl_alloc) | (with_reducible apply Below.drew))); done)) (fun hHeld => ?_); refine wpE_take (i := 0) (v := ?_) rfl (by kernel_rfl) (fun _ _ _ h => h) (Or.inl ⟨by kernel_rfl, ?_⟩) (by assumption) ?_
        rotate_left; focus (intro w9 hS9; (try dsimp only at hS9); go_simp; (try with_reducible rfl)); (try simp only [gkA, gkB, gkC, Act.put, gkD, gkE, gkF])
        refine wpE_take (i := 1) (v := ?_) rfl (by kernel_rfl) (fun _ _ _ h => h) (Or.inl ⟨by kernel_rfl, ?_⟩) (by assumption) ?_
        rotate_left; focus (intro w9 hS9; have z0 := HK1.out w9 hS9; clear hS9; go_simp; (try with_reducible rfl)); (try simp only [gkA, gkB, gkC, Act.put, gkD, gkE, gkF])
        refine wpE_take (i := 2) (v := ?_) rfl (by kernel_rfl) (fun _ _ _ h => h) (Or.inl ⟨by kernel_rfl, ?_⟩) (by assumption) ?_
        rotate_left; focus (intro w9 hS9; obtain ⟨z0, z1, z2⟩ := HK3.out w9 hS9; clear hS9; go_simp; (try with_reducible rfl)); (try simp only [gkA, gkB, gkC, Act.put, gkD, gkE, gkF])
        refine wpE_ready (rs := [3]) (by kernel_rfl) (by kernel_rfl) ?_; refine AllReadyE.cons rfl (fun K hK => ?_) AllReadyE.nil; go_simp
        with_reducible refine (HCC.out _ (by (repeat (first | (with_reducible exact Below.refl _ _) | (with_reducible apply bl_drewN) | (with_reducible apply bl_alloc) | (with_reducible apply Below.drew))); done)).mono ?_
        rintro e9 w5 ⟨h', rfl, hn5, hb5⟩; obtain ⟨a5, c5, rfl, -⟩ := hn5.form; have HN5 := Lib.hid (show NewL tSI 101 wb.heap.size w5 (.slice a5 y.ps.length c5) y.ps from hn5); have HB5 := Lib.hid (show Below wb.heap.size wb w5 from bl_trans (by (repeat (first | (with_reducible exact Below.refl _ _) | (with_reducible apply bl_drewN) | (with_reducible apply bl_alloc) | (with_reducible apply Below.drew))); done) hb5); clear hn5 hb5 HCC; clear hHeld; refine hK.out _ _ (HB5.out) (fun hHeld => ?_); clear hK K; refine wpE_ready (rs := [4]) (by kernel_rfl) (by kernel_rfl) ?_; refine AllReadyE.cons rfl (fun K hK => ?_) AllReadyE.nil; go_simp; clear hHeld; refine hK.out _ _ (bl_trans HB5.out (by (repeat (first | (with_reducible exact Below.refl _ _) | (with_reducible apply bl_drewN) | (with_reducible apply bl_alloc) | (with_reducible apply Below.drew))); done)) (fun hHeld => ?_); clear hK K; clear hHeld; refine wpE_out (by kernel_rfl) ?_; refine wpAny_ready (rs := [5]) (by kernel_rfl) (by simp) ?_; refine AllReady.cons rfl (fun K hK => ?_) AllReady.nil; rw [if_pos (show _ = true by kernel_rfl)]; have hj6 : (es.take k).length ≤ 1000000 := by omega
        refine wp_append_new (w1 := wr) (.tmp 58) (.tmp 61) 66 rfl slEnt (by go_simp) HN2.out (by first | exact bl_trans HB3.out HB5.out | exact bl_trans HB3.out (bl_trans HB5.out (by (repeat (first | (with_reducible exact Below.refl _ _) | (with_reducible apply bl_drewN) | (with_reducible apply bl_alloc) | (with_reducible apply Below.drew))); done))) (by go_simp) (newEnt HOKY.out (HN5.out.mono HB3.out.size)) (by omega) (by unfold maxLen; omega) hso ?_; intro v6 w6 hn6 hb6; have hf6 := hn6.form; rw [List.length_append, htl2] at hf6; obtain ⟨a6, c6, rfl, -⟩ := hf6; have hbx : Below (wo.heap.size + 1) wr w6 := ((bl_trans HB3.out HB5.out).mono (by omega)).trans hb6; have hpx := HPW.out.step hbx (by omega); have g6 := (hbx.block wo.heap.size (by omega)).trans HOB.out; obtain ⟨r0, rf⟩ := blk1 g6; have hl6 : wo.heap.size < w6.heap.size := lt_of_heap g6; have HN6 := Lib.hid hn6; have HBX := Lib.hid (show Below w.heap.size w w6 from HB2.out.trans (hbx.mono (by omega))); have HPX := Lib.hid hpx; have HG6 := Lib.hid g6; have HZX := Lib.hid (show wo.heap.size + 1 ≤ w6.heap.size from hl6); clear hn6 hb6 hbx hpx g6; refine hK _ _ ?_; clear hK K
        (try simp only [gkA, gkB, gkC, Act.put, gkD, gkE, gkF])
        refine wpAny_ready (rs := [6]) (by kernel_rfl) (by simp) ?_; refine AllReady.cons rfl (fun K hK => ?_) AllReady.nil; rw [if_pos (show _ = true by kernel_rfl)]; go_simp; refine hK _ _ ?_; clear hK K; refine wpAny_ready (rs := [7]) (by kernel_rfl) (by simp) ?_; refine AllReady.cons rfl (fun K hK => ?_) AllReady.nil; rw [if_pos (show _ = true by kernel_rfl)]; go_simp; refine hK _ _ ?_; clear hK K; refine wpAny_done (by kernel_rfl) ?_ _; go_wp2
        go_roundg (es.length - (k + 1))
        case measure => omega
        case rel => exact ⟨k + 1, _, by omega, by go_num, HPX.out.put (by simp only; omega) _, heap_setCell_same _ _ _ _ _ _ HG6.out, by rw [HG2.out]; exact HN6.out.same (fun q hq => Below.heap_setCell _ _ _ _ (by simp; omega)), bl_set HBX.out _ (by simp; omega), by simpa using HZX.out⟩
      · obtain rfl : k = es.length := by omega
        have hkd2 : decide ((es.length : Int) < (es.length : Int)) = false := by simp
        rw [List.take_length] at HN2
        go_upto_region 19 with (fail)
        have HSL := Lib.hid (show SlIs tSI (· < wr.heap.size) wr (.slice ao2 e.ps.length cap2) e.ps from HPS.out.keep (fun q (hq : q < w.heap.size) => Nat.lt_of_lt_of_le hq HB2.out.size) (.of_below HB2.out)); have HK1 := Lib.hid (show ∀ w', Below wr.heap.size wr w' → w'.cell? ⟨wo.heap.size, 0, none⟩ = some (.slice a4 es.length c4) from fun w' hw' => (blk1 ((hw'.block _ (lt_of_heap HOB.out)).trans HOB.out)).1)
        have HK3 := Lib.hid (show ∀ w', Below wr.heap.size wr w' → w'.cell? ⟨w.heap.size + 1, 0, none⟩ = some (.string e.key) ∧ w'.cell? ⟨w.heap.size + 1, 1, none⟩ = some (.int .i64 e.tm) ∧ w'.cell? ⟨w.heap.size + 1, 2, none⟩ = some (.slice ao2 e.ps.length cap2) from fun w' hw' => by
         obtain ⟨z0, z1, z2, -⟩ := blk3 ((hw'.block _ (lt_of_heap HPW.out.b1)).trans HPW.out.b1)
         exact ⟨z0, z1, z2⟩)
        have HCC := Lib.hid (show ∀ W, Below wr.heap.size wr W → Calls Tryz.prog 106 #[.agg #[.string e.key, .int .i64 e.tm, .slice ao2 e.ps.length cap2]] W fun r w' => ∃ h', r = .returned (.agg #[.string e.key, .int .i64 e.tm, h']) ∧ NewL tSI 101 W.heap.size w' h' e.ps ∧ Below W.heap.size W w' from fun W hW => cloneE_any e _ W (HSL.out.step hW) (by omega)); clear hbl hob; refine wp_region_E 5 (fun w' => Below wr.heap.size wr w') (by kernel_rfl) ((by (repeat (first | (with_reducible exact Below.refl _ _) | (with_reducible apply bl_drewN) | (with_reducible apply bl_alloc) | (with_reducible apply Below.drew))); done)) (fun hHeld => ?_); refine wpE_take (i := 0) (v := ?_) rfl (by kernel_rfl) (fun _ _ _ h => h) (Or.inl ⟨by kernel_rfl, ?_⟩) (by assumption) ?_
        rotate_left; focus (intro w9 hS9; (try dsimp only at hS9); go_simp; (try with_reducible rfl)); (try simp only [gkA, gkB, gkC, Act.put, gkD, gkE, gkF])
        refine wpE_take (i := 1) (v := ?_) rfl (by kernel_rfl) (fun _ _ _ h => h) (Or.inl ⟨by kernel_rfl, ?_⟩) (by assumption) ?_
        rotate_left; focus (intro w9 hS9; have z0 := HK1.out w9 hS9; clear hS9; go_simp; (try with_reducible rfl)); (try simp only [gkA, gkB, gkC, Act.put, gkD, gkE, gkF])
        refine wpE_take (i := 2) (v := ?_) rfl (by kernel_rfl) (fun _ _ _ h => h) (Or.inl ⟨by kernel_rfl, ?_⟩) (by assumption) ?_
        rotate_left; focus (intro w9 hS9; obtain ⟨z0, z1, z2⟩ := HK3.out w9 hS9; clear hS9; go_simp; (try with_reducible rfl)); (try simp only [gkA, gkB, gkC, Act.put, gkD, gkE, gkF])
        refine wpE_ready (rs := [3]) (by kernel_rfl) (by kernel_rfl) ?_; refine AllReadyE.cons rfl (fun K hK => ?_) AllReadyE.nil; go_simp
        with_reducible refine (HCC.out _ (by (repeat (first | (with_reducible exact Below.refl _ _) | (with_reducible apply bl_drewN) | (with_reducible apply bl_alloc) | (with_reducible apply Below.drew))); done)).mono ?_
        rintro e9 w5 ⟨h', rfl, hn5, hb5⟩; obtain ⟨a5, c5, rfl, -⟩ := hn5.form; have HN5 := Lib.hid (show NewL tSI 101 wr.heap.size w5 (.slice a5 e.ps.length c5) e.ps from hn5); have HB5 := Lib.hid (show Below wr.heap.size wr w5 from bl_trans (by (repeat (first | (with_reducible exact Below.refl _ _) | (with_reducible apply bl_drewN) | (with_reducible apply bl_alloc) | (with_reducible apply Below.drew))); done) hb5); clear hn5 hb5 HCC; clear hHeld; refine hK.out _ _ (HB5.out) (fun hHeld => ?_); clear hK K; refine wpE_ready (rs := [4]) (by kernel_rfl) (by kernel_rfl) ?_; refine AllReadyE.cons rfl (fun K hK => ?_) AllReadyE.nil; go_simp; clear hHeld; refine hK.out _ _ (bl_trans HB5.out (by (repeat (first | (with_reducible exact Below.refl _ _) | (with_reducible apply bl_drewN) | (with_reducible apply bl_alloc) | (with_reducible apply Below.drew))); done)) (fun hHeld => ?_); clear hK K; clear hHeld; refine wpE_out (by kernel_rfl) ?_; refine wpAny_ready (rs := [5]) (by kernel_rfl) (by simp) ?_; refine AllReady.cons rfl (fun K hK => ?_) AllReady.nil; rw [if_pos (show _ = true by kernel_rfl)]; refine wp_append_new (w1 := wr) (.tmp 66) (.tmp 69) 66 rfl slEnt (by go_simp) HN2.out (by first | exact HB5.out | exact bl_trans HB5.out (by (repeat (first | (with_reducible exact Below.refl _ _) | (with_reducible apply bl_drewN) | (with_reducible apply bl_alloc) | (with_reducible apply Below.drew))); done)) (by go_simp) (newEnt HOK.out HN5.out) (by omega) (by unfold maxLen; omega) hso ?_; intro v6 w6 hn6 hb6; have hf6 := hn6.form; rw [List.length_append] at hf6; obtain ⟨a6, c6, rfl, -⟩ := hf6; have hbx : Below (wo.heap.size + 1) wr w6 := (HB5.out.mono (by omega)).trans hb6; have hpx := HPW.out.step hbx (by omega); have g6 := (hbx.block wo.heap.size (by omega)).trans HOB.out; obtain ⟨r0, rf⟩ := blk1 g6; obtain ⟨s0, sf⟩ := blk1 hpx.b2; have s0' : w6.cell? ⟨w.heap.size + 1 + 1, 0, none⟩ = some (.slice none 0 0) := s0; have sf' : ∀ j, w6.frozen? ⟨w.heap.size + 1 + 1, j, none⟩ = false := sf; have hl6 : wo.heap.size < w6.heap.size := lt_of_heap g6; have hl7 : w.heap.size + 1 + 1 < w6.heap.size := by omega
        have hl8 : w.heap.size + 1 + 1 ≠ wo.heap.size := by omega
        have HN6 := Lib.hid hn6; have HBX := Lib.hid (show Below w.heap.size w w6 from HB2.out.trans (hbx.mono (by omega))); have HPX := Lib.hid hpx; clear hn6 hb6 hbx hpx g6 s0 sf; refine hK _ _ ?_; clear hK K
        (try simp only [gkA, gkB, gkC, Act.put, gkD, gkE, gkF])
        refine wpAny_ready (rs := [6]) (by kernel_rfl) (by simp) ?_; refine AllReady.cons rfl (fun K hK => ?_) AllReady.nil; rw [if_pos (show _ = true by kernel_rfl)]; go_simp; refine hK _ _ ?_; clear hK K; refine wpAny_ready (rs := [7]) (by kernel_rfl) (by simp) ?_; refine AllReady.cons rfl (fun K hK => ?_) AllReady.nil; rw [if_pos (show _ = true by kernel_rfl)]; go_simp; refine hK _ _ ?_; clear hK K; refine wpAny_done (by kernel_rfl) ?_ _; go_wp2; have g7 : ((w6.setCell ⟨wo.heap.size, 0, none⟩ (.slice a6 (es.length + 1) c6)).setCell ⟨w.heap.size + 1 + 1, 0, none⟩ (.slice a6 (es.length + 1) c6)).heap[w.heap.size + 1 + 1]? = some (.cells #[.slice a6 (es.length + 1) c6] 68 (0, 0)) := heap_setCell_same _ _ _ _ _ _ (HPX.out.put (q := ⟨wo.heap.size, 0, none⟩) (by simp only; omega) _).b2; have k7 := (blk1 g7).1; have b7 : Below w.heap.size w ((w6.setCell ⟨wo.heap.size, 0, none⟩ (.slice a6 (es.length + 1) c6)).setCell ⟨w.heap.size + 1 + 1, 0, none⟩ (.slice a6 (es.length + 1) c6)) := bl_set (bl_set HBX.out _ (by simp only; omega)) _ (by simp only; omega); refine bodyPost_ret (v := .tuple #[.agg #[.slice a6 (es.length + 1) c6], .int .i64 0]) (by simp [results, Tryz.results66, go_sem, k7]) rfl ⟨⟨_, by rw [HR.out], ?_⟩, b7⟩; rw [HR.out]; exact HN6.out.sl.keep (fun k hk => ⟨.inr (by have := hk.1; omega), by simpa using hk.2⟩) (fun k hk => ((Below.heap_setCell _ _ _ _ (by have := hk.1; simp only; omega)).trans (Below.heap_setCell _ _ _ _ (by have := hk.1; simp only; omega))))
   · intro x c kl yd yp w7 cnt1 hkey hlk hv hat hrg1 hlt hg1 hs1 hen
     obtain ⟨x', ex, rfl, hxl⟩ := Maps.keyOf_str Tryz.underlying9 hkey; obtain rfl := encStr_inj ex; obtain ⟨s, rfl⟩ : ∃ s, x = kb s := ⟨ofB x, (kb_ofB x).symm⟩; rw [enc_kb] at hen hkey ⊢; have hhas := (HD2.out.has s).symm.trans (Maps.has_true_of_atKey hat); obtain ⟨c', hc'⟩ := Option.isSome_iff_exists.1 hhas; obtain ⟨c0, hc0, hy0, -⟩ := plainElem_int_inv Tryz.underlying3 hv
     have hcc : c = c' := by
      have h1 := (hat (.lit (.int .i64 0))).symm.trans (HD2.out.val s c' hc' _)
      injection hc0 with _ hc0
      simp only [Prod.mk.injEq] at hy0; rw [hy0.1] at h1
      injection h1 with h1
      injection h1 with _ h1
      rw [hc0, h1]
     subst hcc; obtain ⟨hce, p, hpm, hps⟩ := bm_some hc'; have hM7 := World.ownsMap.kept hM hg1 (by intro e; injection e with e; omega); obtain ⟨c1, hr1, hat1, hw1⟩ := World.ownsMap.lookup_int hM7 keyedS Tryz.underlying175 Tryz.underlying3 (by kernel_rfl) hkey
     have hcv : c1 = balL s es := by
      have := hat1.symm.trans (HDD.out.get s); rw [bm_get, ← bal_flat] at this
      injection this with this
      injection this
     have hb1 := bal_bound HLE.out.fit s; rw [← bal_flat, ← hcv] at hb1; have hb2 := bal_bound HFE.out s; rw [← hce] at hb2; have hle := HLE.out.len; have hwr : IntKind.i64.wrap (c1 + c) = c1 + c := wrap_in (by omega) (by omega); have HP7 := Lib.hid (hpw.grown hg1 h0r); have HB7 := Lib.hid (hbl.grown hg1 hbl.size (fun j e => by injection e with e; omega)); have hlt7 := lt_of_heap HP7.out.b2; have c0 := (blk1 HP7.out.b0).1; obtain ⟨c2, cf⟩ := blk1 HP7.out.b2; obtain ⟨q, hqq⟩ : ∃ q, fitsM (c1 + c) = q := ⟨_, rfl⟩; have HX := Lib.hid (show ∀ W, Calls Tryz.prog 33 #[.int .i64 (c1 + c)] W fun e w' => e = .returned (.bool q) ∧ W = w' from fun W => by rw [← hqq]; exact mFits_any _ W); have HQ := Lib.hid (show fitsM (balL s es + balE s e) = q by rw [← hqq, hcv, hce]; rfl); have l0 : w.heap.size < w7.heap.size := by omega
     have l2 : w.heap.size + 1 + 1 < w7.heap.size := by omega
     clear hat1 hcv hce hb1 hb2 hle hw1 hqq hy0 hhas hc' hv hat hpw hbl
     cases q with
     | false =>
      have HR := Lib.hid (post_bad hz hq (by rw [List.all_eq_false]; exact ⟨p, hpm, by rw [hps, HQ.out]; decide⟩)); clear hz hq
      go_wp2_with (go_at_call 33; with_reducible refine (HX.out _).mono ?_; rintro e w1 ⟨rfl, rfl⟩)
      have g5 : (w7.setCell ⟨w.heap.size + 1 + 1, 0, none⟩ (.slice ao es.length cap)).heap[w.heap.size + 1 + 1]? = some (.cells #[.slice ao es.length cap] 68 (0, 0)) := heap_setCell_same _ _ _ _ _ _ HP7.out.b2; have k5 := (blk1 g5).1; have b5 : Below w.heap.size w (w7.setCell ⟨w.heap.size + 1 + 1, 0, none⟩ (.slice ao es.length cap)) := bl_set HB7.out _ (by simp only; omega); refine bodyPost_ret (v := .tuple #[.agg #[.slice ao es.length cap], .int .i64 13]) (by simp [results, Tryz.results66, go_sem, k5]) rfl ⟨⟨_, by rw [HR.out], ?_⟩, b5⟩; rw [HR.out]; exact HEB.out.keep (fun k (hk : k < B) => ⟨.inl hk, Nat.lt_of_lt_of_le hk (Nat.le_trans hB b5.size)⟩) (.of_below (b5.mono hB))
     | true =>
      go_wp2_with (go_at_call 33; with_reducible refine (HX.out _).mono ?_; rintro e w1 ⟨rfl, rfl⟩)
      go_roundw
      case rel => exact ⟨_, cnt1, hrg1, hM7, Lib.hid (fun s' h1 h2 => by
       rw [sameK] at h2
       by_cases e : s' = s
       · subst e; exact HQ.out
       · rw [decide_eq_false e] at h2
         exact HF.out s' h1 (by simpa using h2)), HP7.out, HB7.out⟩
      case measure => rw [hrg1.left_eq, hrg.left_eq]; exact hlt
end Go.Proofs.YtifcelebfagjbaaGreatDoor
namespace Go.Tw.Po
open Go.RowKit Go.Tw Go.Sort Go.Tw.Ord
def balS (a : ByteArray) (l : List SI) : Int := sumL (l.filter fun p => decide (p.s = a))
theorem balS_snoc (a : ByteArray) (l : List SI) (p : SI) : balS a (l ++ [p]) = if p.s = a then balS a l + p.n else balS a l := by
 unfold balS; rw [List.filter_append, sumL_app, List.filter_cons, List.filter_nil]
 by_cases h : p.s = a
 · rw [if_pos (by simpa using h), if_pos h]; simp [sumL]
 · rw [if_neg (by simpa using h), if_neg h]; simp [sumL]
end Go.Tw.Po
namespace Go.Proofs.YtifcelebfagjbaaGreatDoor
open Go.RowKit Go.Tw Go.Tw.Ord Go.Tw.Po Go.Sort
set_option maxRecDepth 100000 in
set_option maxHeartbeats 4000000 in
theorem balR_any (l : List Ent) (v : Value) (a : ByteArray) (w : World) (h : SlIs (tEnt 101) (· < w.heap.size) w v l) (hk : LOk 4004 l) :
  Calls Tryz.prog 26 #[.agg #[v], .string a] w fun e w' => e = .returned (.int .i64 (balL a l)) ∧ Below w.heap.size w w' := by
 obtain ⟨ao, cap, bi, off, rfl, hl, hm, ho⟩ := ent_open h; unfold maxLen at hm; have HO := Lib.hid ho; have HF := Lib.hid hk; have HBF := Lib.hid (bal_flat a l); have n0 := alloc1_0 w (.cells #[.slice ao l.length cap] 68); have HB := Lib.hid (bl_alloc (Below.refl w.heap.size w) (.cells #[.slice ao l.length cap] 68)); have d0 : (w.alloc (.cells #[.slice ao l.length cap] 68)).cell? ⟨w.heap.size, 0, none⟩ = some (.slice ao l.length cap) := cell_of_row _ _ 0 _ _ _ n0; clear h ho hk n0
 go_enter Tryz.func26, Tryz.ntmps26
 go_wp2; generalize w.alloc (.cells #[.slice ao l.length cap] 68) = w0 at HB d0 ⊢
 go_loopg [5, 6] l.length (fun g n i wr => ∃ k : Nat, k + g = l.length ∧ i = .int .i64 k ∧ n = .int .i64 (balS a (posL (l.take k))) ∧ wr = w0)
 case atStart => exact ⟨0, by omega, rfl, rfl, rfl⟩
 case round =>
  obtain ⟨k, hk, rfl, rfl, rfl⟩ := hrel
  by_cases hlt : k < l.length
  · obtain ⟨rfl, -, hbi, hok, hv, hsl, c0, c1, c2⟩ := HO.out wr (.of_below HB.out) k hlt
    have k0 : (0 : Int) ≤ (k : Int) := by omega
    have k1 : (k : Int) < (l.length : Int) := by omega
    have HPT := Lib.hid (pos_take hlt); have HPS := Lib.hid (pos_split hlt); generalize l[k] = y at *; obtain ⟨a2, c2', b2, o2, rfl, h21, h22, ho2⟩ := si_open hsl; unfold maxLen at h22; have HO2 := Lib.hid ho2; obtain ⟨q, hq⟩ : ∃ q, posL (l.take k) = q := ⟨_, rfl⟩; rw [hq] at HPT HPS ⊢
    have HL := Lib.hid (show q.length + y.ps.length ≤ 4004 ∧ Fit (q ++ y.ps) from by
     have h1 := HF.out.len; have h2 := HF.out.fit; rw [HPS.out] at h1 h2; rw [List.length_append, List.length_append] at h1
     exact ⟨by omega, fun x hx => h2 x (by
      rw [← List.append_assoc]; exact List.mem_append_left _ hx)⟩)
    clear hq hsl ho2; go_wp2
    go_loopg [5, 7] y.ps.length (fun g n i wr2 => ∃ j : Nat, j + g = y.ps.length ∧ i = .int .i64 j ∧ n = .int .i64 (balS a (q ++ y.ps.take j)) ∧ wr2 = wr)
    case atStart => exact ⟨0, by omega, rfl, by rw [List.take_zero, List.append_nil], rfl⟩
    case round =>
     obtain ⟨j, hj, rfl, rfl, rfl⟩ := hrel
     by_cases hlt2 : j < y.ps.length
     · obtain ⟨rfl, -, hb2, hop, e0, e1⟩ := HO2.out wr (SameOn.refl _ _) j hlt2
       have j0 : (0 : Int) ≤ (j : Int) := by omega
       have j1 : (j : Int) < (y.ps.length : Int) := by omega
       have HPJ := Lib.hid (show balS a (q ++ y.ps.take (j + 1)) = if y.ps[j].s = a then balS a (q ++ y.ps.take j) + y.ps[j].n else balS a (q ++ y.ps.take j) by rw [List.take_succ_eq_append_getElem hlt2, ← List.append_assoc, balS_snoc])
       have hb0 := bal_bound (l := q ++ y.ps.take j) (fun x hx => HL.out.2 x (by
        rcases List.mem_append.1 hx with hx | hx
        · exact List.mem_append_left _ hx
        · exact List.mem_append_right _ (List.mem_of_mem_take hx))) a
       have hbl2 : (q ++ y.ps.take j).length ≤ 4004 := by rw [List.length_append, List.length_take]; have := HL.out.1; omega
       have hfp := fitsM_iff.1 (HL.out.2 y.ps[j] (List.mem_append_right _ (List.getElem_mem hlt2))); generalize y.ps[j] = p at *
       change -1125899906842624 * _ ≤ balS a (q ++ y.ps.take j) ∧ balS a (q ++ y.ps.take j) ≤ _ at hb0
       generalize balS a (q ++ y.ps.take j) = c at *; obtain ⟨xs, xn⟩ := p; simp only at *; have hwr : IntKind.i64.wrap (c + xn) = c + xn := wrap_in (by omega) (by omega); clear hb0 hop hbl2 hfp; obtain ⟨b, hb⟩ : ∃ b, (xs.toList == a.toList) = b := ⟨_, rfl⟩; have HBB := Lib.hid (show decide (xs = a) = b by rw [← hb, eq_str])
       cases b with
       | true =>
        have HXA := Lib.hid (show xs = a by simpa using HBB.out); go_wp2
        go_roundg (y.ps.length - (j + 1))
        case measure => omega
        case rel => exact ⟨j + 1, by omega, by go_num, by rw [HPJ.out, if_pos HXA.out], rfl⟩
       | false =>
        have HXA := Lib.hid (show ¬ xs = a by simpa using HBB.out); go_wp2
        go_roundg (y.ps.length - (j + 1))
        case measure => omega
        case rel => exact ⟨j + 1, by omega, by go_num, by rw [HPJ.out, if_neg HXA.out], rfl⟩
     · have hjd : decide ((j : Int) < (y.ps.length : Int)) = false := by simp; omega
       rw [show y.ps.take j = y.ps from List.take_of_length_le (by omega)]; go_wp2
       go_roundg (l.length - (k + 1))
       case measure => omega
       case rel => exact ⟨k + 1, by omega, by go_num, by rw [HPT.out], rfl⟩
  · have hkd : decide ((k : Int) < (l.length : Int)) = false := by simp; omega
    rw [show l.take k = l from List.take_of_length_le (by omega)]; go_wp2; go_ret; exact ⟨ret_int HBF.out, HB.out⟩
end Go.Proofs.YtifcelebfagjbaaGreatDoor
namespace Go.Proofs.YtifcelebfagjbaaGreatDoor
open Go.RowKit Go.Tw Go.Tw.Ord Go.Tw.Po Go.Sort
set_option maxRecDepth 100000 in
set_option maxHeartbeats 4000000 in
theorem copyR_any (y : Ent) (v : Value) (w : World) (h : SlIs tSI (· < w.heap.size) w v y.ps) (hlen : y.ps.length ≤ 1000000) :
  Calls Tryz.prog 137 #[.agg #[.string y.key, .int .i64 y.tm, v]] w fun e w' => ∃ h', e = .returned (.agg #[.string y.key, .int .i64 y.tm, h']) ∧ NewL tSI 101 w.heap.size w' h' y.ps ∧ Below w.heap.size w w' := by
 have n0 := alloc2_0 w (.cells #[.string y.key, .int .i64 y.tm, v] 56) (.cells #[.string ⟨#[]⟩, .int .i64 0, .slice none 0 0] 56); have n1 := alloc2_1 w (.cells #[.string y.key, .int .i64 y.tm, v] 56) (.cells #[.string ⟨#[]⟩, .int .i64 0, .slice none 0 0] 56); have hb := bl_alloc (bl_alloc (Below.refl w.heap.size w) (.cells #[.string y.key, .int .i64 y.tm, v] 56)) (.cells #[.string ⟨#[]⟩, .int .i64 0, .slice none 0 0] 56); obtain ⟨ao, cap, _, _, rfl, -⟩ := id h; have HH := Lib.hid h; clear h
 go_enter Tryz.func137, Tryz.ntmps137
 go_upto_region 2 with (fail)
 generalize (w.alloc (.cells #[.string y.key, .int .i64 y.tm, .slice ao y.ps.length cap] 56)).alloc (.cells #[.string ⟨#[]⟩, .int .i64 0, .slice none 0 0] 56) = wb at n0 n1 hb ⊢; have HB := Lib.hid hb
 have HX := Lib.hid (show ∀ w', Below wb.heap.size wb w' → w'.cell? ⟨w.heap.size, 0, none⟩ = some (.string y.key) ∧ w'.cell? ⟨w.heap.size, 1, none⟩ = some (.int .i64 y.tm) ∧ w'.cell? ⟨w.heap.size, 2, none⟩ = some (.slice ao y.ps.length cap) from fun w' hw' => by
  obtain ⟨z0, z1, z2, -⟩ := blk3 ((hw'.block _ (lt_of_heap n0)).trans n0)
  exact ⟨z0, z1, z2⟩)
 have HN := Lib.hid n1; have hl1 := lt_of_heap n1; clear n0 n1 hb; refine wp_region_E 9 (fun w' => Below wb.heap.size wb w') (by kernel_rfl) ((by (repeat (first | (with_reducible exact Below.refl _ _) | (with_reducible apply bl_drewN) | (with_reducible apply bl_alloc) | (with_reducible apply Below.drew))); done)) (fun hHeld => ?_); refine wpE_take (i := 0) (v := ?_) rfl (by kernel_rfl) (fun _ _ _ h => h) (Or.inl ⟨by kernel_rfl, ?_⟩) (by assumption) ?_
 rotate_left; focus (intro w9 hS9; (try dsimp only at hS9); go_simp; (try with_reducible rfl)); (try simp only [gkA, gkB, gkC, Act.put, gkD, gkE, gkF])
 refine wpE_take (i := 1) (v := ?_) rfl (by kernel_rfl) (fun _ _ _ h => h) (Or.inl ⟨by kernel_rfl, ?_⟩) (by assumption) ?_
 rotate_left; focus (intro w9 hS9; obtain ⟨z0, z1, z2⟩ := HX.out w9 hS9; clear hS9; go_simp; (try with_reducible rfl)); (try simp only [gkA, gkB, gkC, Act.put, gkD, gkE, gkF])
 refine wpE_take (i := 2) (v := ?_) rfl (by kernel_rfl) (fun _ _ _ h => h) (Or.inl ⟨by kernel_rfl, ?_⟩) (by assumption) ?_
 rotate_left; focus (intro w9 hS9; (try dsimp only at hS9); go_simp; (try with_reducible rfl)); (try simp only [gkA, gkB, gkC, Act.put, gkD, gkE, gkF])
 refine wpE_take (i := 3) (v := ?_) rfl (by kernel_rfl) (fun _ _ _ h => h) (Or.inl ⟨by kernel_rfl, ?_⟩) (by assumption) ?_
 rotate_left; focus (intro w9 hS9; obtain ⟨z0, z1, z2⟩ := HX.out w9 hS9; clear hS9; go_simp; (try with_reducible rfl)); (try simp only [gkA, gkB, gkC, Act.put, gkD, gkE, gkF])
 refine wpE_take (i := 4) (v := ?_) rfl (by kernel_rfl) (fun _ _ _ h => h) (Or.inl ⟨by kernel_rfl, ?_⟩) (by assumption) ?_
 rotate_left; focus (intro w9 hS9; (try dsimp only at hS9); go_simp; (try with_reducible rfl)); (try simp only [gkA, gkB, gkC, Act.put, gkD, gkE, gkF])
 refine wpE_take (i := 5) (v := ?_) rfl (by kernel_rfl) (fun _ _ _ h => h) (Or.inl ⟨by kernel_rfl, ?_⟩) (by assumption) ?_
 rotate_left; focus (intro w9 hS9; (try dsimp only at hS9); go_simp; (try with_reducible rfl)); (try simp only [gkA, gkB, gkC, Act.put, gkD, gkE, gkF])
 refine wpE_take (i := 6) (v := ?_) rfl (by kernel_rfl) (fun _ _ _ h => h) (Or.inl ⟨by kernel_rfl, ?_⟩) (by assumption) ?_
 rotate_left; focus (intro w9 hS9; obtain ⟨z0, z1, z2⟩ := HX.out w9 hS9; clear hS9; go_simp; (try with_reducible rfl)); (try simp only [gkA, gkB, gkC, Act.put, gkD, gkE, gkF])
 refine wpE_ready (rs := [7]) (by kernel_rfl) (by kernel_rfl) ?_; refine AllReadyE.cons rfl (fun K hK => ?_) AllReadyE.nil; rw [if_pos (show _ = true by kernel_rfl)]; refine wp_append_sl (.tmp 8) (.tmp 10) 54 rfl slPst (B := wb.heap.size) (v := .slice none 0 0) (l := []) (l2 := y.ps) (v2 := .slice ao y.ps.length cap) (S := (· < w.heap.size)) (by go_simp) (OwnSl.nil _ _ _ _) (by go_simp) (HH.out.keep (fun _ h => h) (by first | exact .of_below HB.out | exact .of_below (Below.drew HB.out))) (fun q hq => ⟨Nat.lt_of_lt_of_le hq HB.out.size, by simp [Value.ownBlock]⟩) (small_bytes (k := 1000000) (by simpa using hlen) (by decide)) (Nat.le_trans (by simpa using hlen) (show 1000000 ≤ maxLen by decide)) (Nat.le_refl _) ?_; intro v5 w5 ho5 hg5 _; rw [List.nil_append] at ho5; obtain ⟨a5, c5, rfl, -⟩ := ho5.form; have HO5 := Lib.hid ho5; have HB5 := Lib.hid (show Below wb.heap.size wb w5 from by first | exact Below.of_grown hg5 (Nat.le_refl _) (fun k hk => by cases hk) | exact (Below.drew (Below.refl _ _)).trans (Below.of_grown hg5 (Nat.le_refl _) (fun k hk => by cases hk))); clear ho5 hg5; clear hHeld; refine hK.out _ _ (HB5.out) (fun hHeld => ?_); clear hK K
 (try simp only [gkA, gkB, gkC, Act.put, gkD, gkE, gkF])
 refine wpE_ready (rs := [8]) (by kernel_rfl) (by kernel_rfl) ?_; refine AllReadyE.cons rfl (fun K hK => ?_) AllReadyE.nil; go_simp; clear hHeld; refine hK.out _ _ (HB5.out) (fun hHeld => ?_); clear hK K; clear hHeld; refine wpE_out (by kernel_rfl) ?_; have n5 := (HB5.out.block _ hl1).trans HN.out; obtain ⟨q0, q1, q2, qf⟩ := blk3 n5; have hl5 := lt_of_heap n5; refine wpAny_ready (rs := [9]) (by kernel_rfl) (by simp) ?_; refine AllReady.cons rfl (fun K hK => ?_) AllReady.nil; rw [if_pos (show _ = true by kernel_rfl)]; go_simp; refine hK _ _ ?_; clear hK K; refine wpAny_done (by kernel_rfl) ?_ _; have n6 : (((w5.setCell ⟨w.heap.size + 1, 0, none⟩ (.string y.key)).setCell ⟨w.heap.size + 1, 1, none⟩ (.int .i64 y.tm)).setCell ⟨w.heap.size + 1, 2, none⟩ (.slice a5 y.ps.length c5)).heap[w.heap.size + 1]? = some (.cells #[.string y.key, .int .i64 y.tm, .slice a5 y.ps.length c5] 56 (0, 0)) := heap_setCell_same _ _ _ _ _ _ (heap_setCell_same _ _ _ _ _ _ (heap_setCell_same _ _ _ _ _ _ n5)); have b6 : Below w.heap.size w (((w5.setCell ⟨w.heap.size + 1, 0, none⟩ (.string y.key)).setCell ⟨w.heap.size + 1, 1, none⟩ (.int .i64 y.tm)).setCell ⟨w.heap.size + 1, 2, none⟩ (.slice a5 y.ps.length c5)) := bl_set (bl_set (bl_set (bl_trans HB.out HB5.out) _ (by simp only; omega)) _ (by simp only; omega)) _ (by simp only; omega); have o6 : NewL tSI 101 w.heap.size (((w5.setCell ⟨w.heap.size + 1, 0, none⟩ (.string y.key)).setCell ⟨w.heap.size + 1, 1, none⟩ (.int .i64 y.tm)).setCell ⟨w.heap.size + 1, 2, none⟩ (.slice a5 y.ps.length c5)) (.slice a5 y.ps.length c5) y.ps := ((NewL.ofOwn ownSI HO5.out (Nat.le_refl _)).same (fun j hj => ((Below.heap_setCell _ _ _ _ (by simp only; omega)).trans (Below.heap_setCell _ _ _ _ (by simp only; omega))).trans (Below.heap_setCell _ _ _ _ (by simp only; omega)))).mono HB.out.size; obtain ⟨t0, t1, t2, -⟩ := blk3 n6; clear q0 q1 q2 qf n5 hl5; generalize ((w5.setCell ⟨w.heap.size + 1, 0, none⟩ (.string y.key)).setCell ⟨w.heap.size + 1, 1, none⟩ (.int .i64 y.tm)).setCell ⟨w.heap.size + 1, 2, none⟩ (.slice a5 y.ps.length c5) = w6 at *
 go_wp2; refine bodyPost_ret (v := .agg #[.string y.key, .int .i64 y.tm, .slice a5 y.ps.length c5]) (by simp [results, Tryz.results137, go_sem, t0, t1, t2]) rfl ?_; exact ⟨_, rfl, o6, b6⟩
end Go.Proofs.YtifcelebfagjbaaGreatDoor
namespace Go.Proofs.YtifcelebfagjbaaGreatDoor
open Go.RowKit Go.Tw Go.Tw.Ord Go.Tw.Po Go.Sort
def FndE (es : List Ent) (s : ByteArray) (w : World) (e : Ending) (w' : World) : Prop := (∃ s' t' a n c, e = .returned (.tuple #[.agg #[.string s', .int .i64 t', .slice a n c], .bool (es.any fun x => decide (x.key = s))])) ∧ Below w.heap.size w w'
set_option maxRecDepth 100000 in
set_option maxHeartbeats 4000000 in
theorem findR32_any (l : List Ent) (v : Value) (s : ByteArray) (w : World) (h : SlIs (tEnt 101) (· < w.heap.size) w v l) (hps : ∀ x ∈ l, x.ps.length ≤ 1000000) :
  Calls Tryz.prog 136 #[.agg #[v], .string s] w (FndE l s w) := by
 obtain ⟨ao, cap, bi, off, rfl, hl, hm, ho⟩ := ent_open h; unfold maxLen at hm; have HO := Lib.hid ho; have HP := Lib.hid hps; have n0 := alloc2_0 w (.cells #[.slice ao l.length cap] 68) (.cells #[.string ⟨#[]⟩, .int .i64 0, .slice none 0 0] 56); have n1 := alloc2_1 w (.cells #[.slice ao l.length cap] 68) (.cells #[.string ⟨#[]⟩, .int .i64 0, .slice none 0 0] 56); have hb := bl_alloc (bl_alloc (Below.refl w.heap.size w) (.cells #[.slice ao l.length cap] 68)) (.cells #[.string ⟨#[]⟩, .int .i64 0, .slice none 0 0] 56); clear h ho hps
 go_enter Tryz.func136, Tryz.ntmps136
 go_wp2; generalize (w.alloc (.cells #[.slice ao l.length cap] 68)).alloc (.cells #[.string ⟨#[]⟩, .int .i64 0, .slice none 0 0] 56) = w0 at n0 n1 hb ⊢; have d0 := cell_of_row _ _ 0 _ _ _ n0; have d0 : w0.cell? ⟨w.heap.size, 0, none⟩ = some (.slice ao l.length cap) := d0; have HB := Lib.hid hb; have HN := Lib.hid n1; have hl1 := lt_of_heap n1; obtain ⟨q0, q1, q2, qf⟩ := blk3 n1; clear n0 n1 hb
 go_loopg [6] l.length (fun g i wr => ∃ k : Nat, k + g = l.length ∧ i = .int .i64 k ∧ Hid (∀ j (hj : j < l.length), j < k → l[j].key ≠ s) ∧ wr = w0)
 case atStart => exact ⟨0, by omega, rfl, Lib.hid (fun j _ h => by omega), rfl⟩
 case round =>
  obtain ⟨k, hk, rfl, HT, rfl⟩ := hrel
  by_cases hlt : k < l.length
  · obtain ⟨rfl, -, hbi, hok, hv, hsl, c0, c1, c2⟩ := HO.out wr (.of_below HB.out) k hlt
    have k0 : (0 : Int) ≤ (k : Int) := by omega
    have k1 : (k : Int) < (l.length : Int) := by omega
    have HG1 := Lib.hid (show ∀ j (hj : j < l.length), j = k → l[j] = l[k] by rintro j hj rfl; rfl); have HM := Lib.hid (List.getElem_mem hlt); have hyp := HP.out _ HM.out; generalize l[k] = y at *
    obtain ⟨hva, hvn, hvc, hve⟩ : ∃ a n c, hv = .slice a n c := by
     obtain ⟨a, c, _, _, e, -⟩ := hsl; exact ⟨a, _, c, e⟩
    subst hve; have hsl1 : SlIs tSI (· < wr.heap.size) wr (.slice hva hvn hvc) y.ps := hsl.keep (fun q (hq : q < w.heap.size) => Nat.lt_of_lt_of_le hq HB.out.size) (SameOn.refl _ _); have HCP := Lib.hid (copyR_any y _ wr hsl1 hyp); obtain ⟨b, hbq⟩ : ∃ b, (y.key.toList == s.toList) = b := ⟨_, rfl⟩; have HKE := Lib.hid (show decide (y.key = s) = b by rw [← hbq, eq_str]); clear hsl hsl1 hok
    cases b with
    | true =>
     have HR := Lib.hid (show (l.any fun x => decide (x.key = s)) = true from List.any_eq_true.2 ⟨y, HM.out, HKE.out⟩); clear HM
     go_wp2_with (fail)
     with_reducible refine HCP.out.mono ?_
     rintro r w2 ⟨h', rfl, hn2, hb2⟩; obtain ⟨a2, c2', rfl, -⟩ := hn2.form; have n2 := (hb2.block _ hl1).trans HN.out; have hl2 := lt_of_heap n2; have HB2 := Lib.hid (bl_trans HB.out hb2); clear q0 q1 q2 qf hn2 hb2 HCP; obtain ⟨q0, q1, q2, qf⟩ := blk3 n2; have n6 : (((w2.setCell ⟨w.heap.size + 1, 0, none⟩ (.string y.key)).setCell ⟨w.heap.size + 1, 1, none⟩ (.int .i64 y.tm)).setCell ⟨w.heap.size + 1, 2, none⟩ (.slice a2 y.ps.length c2')).heap[w.heap.size + 1]? = some (.cells #[.string y.key, .int .i64 y.tm, .slice a2 y.ps.length c2'] 56 (0, 0)) := heap_setCell_same _ _ _ _ _ _ (heap_setCell_same _ _ _ _ _ _ (heap_setCell_same _ _ _ _ _ _ n2)); have b6 : Below w.heap.size w (((w2.setCell ⟨w.heap.size + 1, 0, none⟩ (.string y.key)).setCell ⟨w.heap.size + 1, 1, none⟩ (.int .i64 y.tm)).setCell ⟨w.heap.size + 1, 2, none⟩ (.slice a2 y.ps.length c2')) := bl_set (bl_set (bl_set HB2.out _ (by simp only; omega)) _ (by simp only; omega)) _ (by simp only; omega); clear n2; go_wp2; obtain ⟨t0, t1, t2, -⟩ := blk3 n6; generalize ((w2.setCell ⟨w.heap.size + 1, 0, none⟩ (.string y.key)).setCell ⟨w.heap.size + 1, 1, none⟩ (.int .i64 y.tm)).setCell ⟨w.heap.size + 1, 2, none⟩ (.slice a2 y.ps.length c2') = w6 at *; refine bodyPost_ret (v := .tuple #[.agg #[.string y.key, .int .i64 y.tm, .slice a2 y.ps.length c2'], .bool true]) (by simp [results, Tryz.results136, go_sem, t0, t1, t2]) rfl ?_; exact ⟨⟨_, _, _, _, _, by rw [HR.out]⟩, b6⟩
    | false =>
     go_wp2
     go_roundg (l.length - (k + 1))
     case measure => omega
     case rel => exact ⟨k + 1, by omega, by go_num, Lib.hid (fun j hj h => by
      by_cases e : j = k
      · rw [HG1.out j hj e]; simpa using HKE.out
      · exact HT.out j hj (by omega)), rfl⟩
  · have hkd : decide ((k : Int) < (l.length : Int)) = false := by simp; omega
    have HR := Lib.hid (show (l.any fun x => decide (x.key = s)) = false from by
     rw [List.any_eq_false]; intro x hx; obtain ⟨j, hj, rfl⟩ := List.getElem_of_mem hx
     simpa using HT.out j hj (by omega))
    have n6 : (((wr.setCell ⟨w.heap.size + 1, 0, none⟩ (.string ⟨#[]⟩)).setCell ⟨w.heap.size + 1, 1, none⟩ (.int .i64 0)).setCell ⟨w.heap.size + 1, 2, none⟩ (.slice none 0 0)).heap[w.heap.size + 1]? = some (.cells #[.string ⟨#[]⟩, .int .i64 0, .slice none 0 0] 56 (0, 0)) := heap_setCell_same _ _ _ _ _ _ (heap_setCell_same _ _ _ _ _ _ (heap_setCell_same _ _ _ _ _ _ HN.out)); have b6 : Below w.heap.size w (((wr.setCell ⟨w.heap.size + 1, 0, none⟩ (.string ⟨#[]⟩)).setCell ⟨w.heap.size + 1, 1, none⟩ (.int .i64 0)).setCell ⟨w.heap.size + 1, 2, none⟩ (.slice none 0 0)) := bl_set (bl_set (bl_set HB.out _ (by simp only; omega)) _ (by simp only; omega)) _ (by simp only; omega); go_wp2; obtain ⟨t0, t1, t2, -⟩ := blk3 n6; clear q0 q1 q2 qf; generalize ((wr.setCell ⟨w.heap.size + 1, 0, none⟩ (.string ⟨#[]⟩)).setCell ⟨w.heap.size + 1, 1, none⟩ (.int .i64 0)).setCell ⟨w.heap.size + 1, 2, none⟩ (.slice none 0 0) = w6 at *; refine bodyPost_ret (v := .tuple #[.agg #[.string ⟨#[]⟩, .int .i64 0, .slice none 0 0], .bool false]) (by simp [results, Tryz.results136, go_sem, t0, t1, t2]) rfl ?_; exact ⟨⟨_, _, _, _, _, by rw [HR.out]⟩, b6⟩
end Go.Proofs.YtifcelebfagjbaaGreatDoor
