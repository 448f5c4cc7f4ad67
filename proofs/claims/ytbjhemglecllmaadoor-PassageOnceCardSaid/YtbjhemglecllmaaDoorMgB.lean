/-
  A region that draws its order: a head of operations that are quiet in a class of worlds, in whatever order, then a tail in one forced order, walked in every world of the class. No program in sight.
-/
import Derived.Lib.QuietBelow
import Derived.StillTailTactics
import Derived.Shelf.SlSortCmp.QuietGrown
import Derived.Test.YtbjhemglecllmaaDoorLib
import Derived.Test.YtbjhemglecllmaaDoorMgA
import Derived.Test.YtbjhemglecllmaaDoorShelf
import Derived.Laws.CopyRow
import Derived.Shelf.SlicesQ.Load
import Derived.Deep.QuietTactic
import Derived.Sort.LotA
import Derived.Test.YtbjhemglecllmaaDoorProg
import Derived.Shelf.SlSortCmp.KitK
import Derived.Deep.LoopGhost
namespace Go.Tw
open Go.RowKit Go.Sort
section
variable {P : Program} {ops : Array Oper} {md : Region.Mode} {C : World → Prop}
/-- m operations of the head are still to come, in whatever order; then R -/
def headQ (P : Program) (md : Region.Mode) (ops : Array Oper) (C : World → Prop) (n : Nat) (R : Array Bool → Act → Prop) : Nat → Array Bool → Act → Prop
  | 0, listed, a => R listed a
  | m + 1, listed, a => Region.ready md ops listed ≠ [] ∧ ∀ i ∈ Region.ready md ops listed, i < n ∧ qOp P ops C i (headQ P md ops C n R m (listed.setIfInBounds i true)) a
theorem wpAny_of_headQ {n g : Nat} {R : Array Bool → Act → Prop} {Q' : Exit → Act → World → Prop} (hR : ∀ listed a w, C w → R listed a → wpAny P md ops Q' g listed a w) :
    ∀ (m : Nat) (listed : Array Bool) (a : Act) (w : World), C w → headQ P md ops C n R m listed a → wpAny P md ops Q' (m + g) listed a w
  | 0, listed, a, w, hw, h => by rw [Nat.zero_add]; exact hR _ _ _ hw h
  | m + 1, listed, a, w, hw, h => by
    rw [show m + 1 + g = (m + g) + 1 by omega]
    exact ⟨fun h0 => absurd h0 h.1, fun i hi => wpOp_of_qOp hw (fun a' w' hw' h' => wpAny_of_headQ hR m _ a' w' hw' h') (h.2 i hi).2⟩
theorem headQ_first {n i : Nat} {oi : Oper} {v : Value} {R : Array Bool → Act → Prop} (hi : ops[i]? = some oi) (hsel : ∀ (j : Nat) (o : Oper) cs b, ops[j]? = some o → o.op ≠ .select cs b)
    (hs : Region.sinkB md ops n = true) (hc : Region.chainB md ops n = true) (hn : n < ops.size) (hin : i < n) (hdone : ∀ listed a, R listed a → ∀ j ∈ Region.ready md ops listed, n ≤ j) :
    ∀ (m : Nat) (listed : Array Bool) (a : Act), HeadInv md ops n listed →
      (∀ j oj, ops[j]? = some oj → j ≠ i → listed.getD j true = false → (∀ e ∈ oj.after, Region.binds md e = true → e.on ≠ i) → oi.apart ops oj = true) →
      i ∈ Region.ready md ops listed → YieldsIn P ops C oi v a →
      headQ P md ops C n R m (listed.setIfInBounds i true) (a.put oi.dst v) → headQ P md ops C n R (m + 1) listed a := by
  intro m
  induction m with
  | zero =>
    intro listed a inv _ hr hy H
    have hun := (mem_ready.1 hr).1
    refine ⟨fun h => (by rw [h] at hr; cases hr), fun j hj => ?_⟩
    have hjn : j < n := Nat.lt_of_not_le fun h => tail_waits hs hc hn inv _ i rfl hin hun j h hj
    refine ⟨hjn, ?_⟩
    by_cases hji : j = i
    · subst hji; exact hy.qOp hi H
    · have := hdone _ _ H j (ready_mono hj hji)
      omega
  | succ m ih =>
    intro listed a inv hfree hr hy H
    have hun := (mem_ready.1 hr).1
    refine ⟨fun h => (by rw [h] at hr; cases hr), fun j hj => ?_⟩
    have hjn : j < n := Nat.lt_of_not_le fun h => tail_waits hs hc hn inv _ i rfl hin hun j h hj
    refine ⟨hjn, ?_⟩
    by_cases hji : j = i
    · subst hji; exact hy.qOp hi H
    · have h1 := (H.2 j (ready_mono hj hji)).2
      obtain ⟨hjun, oj, hoj, hall⟩ := mem_ready.1 hj
      have hnot : ∀ e ∈ oj.after, Region.binds md e = true → e.on ≠ i := fun e he hb heq => by
        have h1 := hall e he hb
        rw [heq, getD_both hun] at h1
        cases h1
      have h2 := qOp_put hoj (hfree j oj hoj hji hjun hnot) (fun cs b => hsel i oi cs b hi) (fun cs b => hsel j oj cs b hoj) hy h1
      have hfree' : ∀ k ok, ops[k]? = some ok → k ≠ i → (listed.setIfInBounds j true).getD k true = false →
          (∀ e ∈ ok.after, Region.binds md e = true → e.on ≠ i) → oi.apart ops ok = true := fun k ok hk hki hun hno => by
        refine hfree k ok hk hki ?_ hno
        by_cases hjk : j = k
        · subst hjk; exact hjun
        · rw [getD_set_ne true hjk] at hun; exact hun
      refine qOp_mono (fun a' h3 => ih (listed.setIfInBounds j true) a' (inv.set hj hjn) hfree' (ready_mono hr (Ne.symm hji)) h3.1 ?_) h2
      rw [Array.setIfInBounds_comm _ _ hji]
      exact h3.2
theorem headQ_lex {n g : Nat} {Lq : Act → Prop} (hsel : Region.noSelect ops = true) (hs : Region.sinkB md ops n = true) (hc : Region.chainB md ops n = true) (hn : n < ops.size) :
    ∀ (l : List Oper) (k : Nat) (listed : Array Bool) (a : Act), (∀ j, j < l.length → l[j]? = ops[k + j]?) → k + l.length = n → HeadInv md ops n listed →
    Region.lexHead md ops g l.length k listed = true → wpQuiet P ops C Lq l a →
    headQ P md ops C n (fun listed' a' => Region.seqB md ops g n listed' = true ∧ Lq a') l.length listed a
  | [], k, listed, a, _, hk, _, hB, h => by
    have : k = n := by simpa using hk
    subst this
    exact ⟨by simpa [Region.lexHead] using hB, h⟩
  | o :: l, k, listed, a, hl, hk, inv, hB, h => by
    have h0 : ops[k]? = some o := by simpa using (hl 0 (by simp)).symm
    simp only [List.length_cons, Region.lexHead, Bool.and_eq_true] at hB
    obtain ⟨⟨hr, hf⟩, hB'⟩ := hB
    have hkn : k < n := by simp only [List.length_cons] at hk; omega
    have hr' : k ∈ Region.ready md ops listed := by simpa using hr
    have hst : qOp P ops C k (wpQuiet P ops C Lq l) a := by unfold qOp; simp only [h0]; exact h
    obtain ⟨v, hy, hK⟩ := yieldsIn_of_qOp h0 hst
    exact headQ_first h0 (Region.noSelect_spec hsel) hs hc hn hkn (fun listed' a' hL => seqB_ready hL.1) l.length listed a inv (Region.free_spec h0 hf) hr' hy
      (headQ_lex hsel hs hc hn l (k + 1) _ _ (fun j hj => by have := hl (j + 1) (by simp; omega); simpa [Nat.add_assoc, Nat.add_comm 1 j] using this) (by simp only [List.length_cons] at hk; omega) (inv.set hr' hkn) hB' hK)
/-- a quiet head of n operations, a tail in one order -/
theorem wp_region_quiet_tail {id : Nat} {Q : Exit → Act → World → Prop} {a : Act} {w : World} {l : List Oper} (n : Nat) (hm : P.follows .mixedOrders = true) (hB : Region.lexTailB .any l.toArray n = true) (hC : C w.drew)
    (h : wpQuiet P l.toArray C (fun a' => ∀ w', C w' → wpList P l.toArray Q (l.drop n) a' w') (l.take n) a) : (Code.region id l.toArray true).wp P Q a w := by
  simp only [Region.lexTailB, Bool.and_eq_true, decide_eq_true_eq] at hB
  obtain ⟨⟨⟨⟨hsel, hn⟩, hs⟩, hc⟩, hlex⟩ := hB
  have hn' : n < l.length := by simpa using hn
  have htl : (l.take n).length = n := by simp; omega
  have hdl : (l.drop n).length = l.toArray.size - n := by simp
  have inv0 : HeadInv .any l.toArray n (Array.replicate l.toArray.size false) :=
    ⟨by simp, fun j oj _ hl => (by rw [getD_replicate_false] at hl; cases hl), fun t _ ht => getD_in (by simpa using ht) (getD_replicate_false _ _)⟩
  have H := headQ_lex (md := .any) (g := l.toArray.size - n) hsel hs hc hn (l.take n) 0 _ a (fun j hj => by
    have hj' : j < n := by rw [htl] at hj; exact hj
    simp [hj']) (by simpa using htl) inv0 (by rw [htl]; exact hlex) h
  refine wp_region_any hm ?_
  have := wpAny_of_headQ (Q' := Q) (g := l.toArray.size - n) (fun listed a' w' hw' hL => by
    have := wpAny_of_seq (md := .any) (Q' := Q) (l.drop n) n listed a' w' (fun j => by simp [List.getElem?_drop]) (by rw [hdl]; exact hL.1) (hL.2 w' hw')
    rwa [hdl] at this) _ _ _ _ hC H
  rw [htl, show n + (l.toArray.size - n) = l.toArray.size by omega] at this
  exact this
/-- .. at the class 'what lay in w lies' -/
theorem wp_region_below_tail {id : Nat} {Q : Exit → Act → World → Prop} {a : Act} {w : World} {l : List Oper} (n : Nat) (hm : P.follows .mixedOrders = true) (hB : Region.lexTailB .any l.toArray n = true)
    (h : wpQuiet P l.toArray (fun w' => ∃ p : Regrown, w' = grow (redrawn w p.d) p.os) (fun a' => ∀ w', Below w.heap.size w w' → wpList P l.toArray Q (l.drop n) a' w') (l.take n) a) : (Code.region id l.toArray true).wp P Q a w :=
  wp_region_quiet_tail (C := fun w' => ∃ p : Regrown, w' = grow (redrawn w p.d) p.os) n hm hB ⟨⟨w.drawn + 1, #[]⟩, by rw [grow_empty]; rfl⟩ (by
    have mono : ∀ (l' : List Oper) (a : Act), wpQuiet P l.toArray (fun w' => ∃ p : Regrown, w' = grow (redrawn w p.d) p.os) (fun a' => ∀ w', Below w.heap.size w w' → wpList P l.toArray Q (l.drop n) a' w') l' a → wpQuiet P l.toArray (fun w' => ∃ p : Regrown, w' = grow (redrawn w p.d) p.os) (fun a' => ∀ w', (∃ p : Regrown, w' = grow (redrawn w p.d) p.os) → wpList P l.toArray Q (l.drop n) a' w') l' a := by
      intro l'
      induction l' with
      | nil => intro a h w' hw'; obtain ⟨p, rfl⟩ := hw'; exact h _ (below_regrown w p.d p.os)
      | cons o l' ih =>
        intro a h
        unfold wpQuiet at h ⊢
        split
        · rename_i q; rw [if_pos q] at h; exact Oper.quiet_mono ih h
        · rename_i q; rw [if_neg q] at h; exact ih _ h
    exact mono _ _ h)
/-- .. at the class 'w after some draws, with some blocks laid' -/
theorem wp_region_grown_tail {id : Nat} {Q : Exit → Act → World → Prop} {a : Act} {w : World} {l : List Oper} (n : Nat) (hm : P.follows .mixedOrders = true) (hB : Region.lexTailB .any l.toArray n = true)
    (h : wpQuiet P l.toArray (fun w' => ∃ p : GrownBy, w' = grow (w.drewN p.n) p.os) (fun a' => ∀ w', (∃ p : GrownBy, w' = grow (w.drewN p.n) p.os) → wpList P l.toArray Q (l.drop n) a' w') (l.take n) a) : (Code.region id l.toArray true).wp P Q a w :=
  wp_region_quiet_tail (C := fun w' => ∃ p : GrownBy, w' = grow (w.drewN p.n) p.os) n hm hB ⟨⟨1, #[]⟩, by rw [grow_empty]; rfl⟩ h
/-- w' is w after some draws, with some blocks laid behind it -/
def GrB (w w' : World) : Prop := ∃ q os, w' = grow (w.drewN q) os
theorem GrB.refl (w : World) : GrB w w := ⟨0, #[], by rw [grow_empty]; rfl⟩
theorem GrB.trans {a b c : World} (h : GrB a b) (k : GrB b c) : GrB a c := by
  obtain ⟨q, os, rfl⟩ := h
  obtain ⟨q', os', rfl⟩ := k
  exact ⟨q + q', os ++ os', by show grow (grow ((a.drewN q).drewN q') os) os' = _; rw [grow_grow, World.drewN_drewN]⟩
theorem GrB.alloc {a b : World} (h : GrB a b) (o : Obj) : GrB a (b.alloc o) := h.trans ⟨0, #[o], by show ({ b with heap := b.heap.push o } : World) = { b with heap := b.heap ++ #[o] }; congr 1⟩
theorem GrB.drewN {a b : World} (h : GrB a b) (n : Nat) : GrB a (b.drewN n) := h.trans ⟨n, #[], by rw [grow_empty]⟩
theorem GrB.drew {a b : World} (h : GrB a b) : GrB a b.drew := h.drewN 1
theorem GrB.below {a b : World} (h : GrB a b) : Below a.heap.size a b := by
  obtain ⟨q, os, rfl⟩ := h
  exact ⟨rfl, rfl, rfl, by simp [grow], fun k hk => by
    show (a.heap ++ os)[k]? = _
    rw [Array.getElem?_append_left hk]⟩
end
end Go.Tw
/-
  Layer 17 (passage): the walks of the comparisons of the program: source, slices.CompareFunc at it, compare.
-/
namespace Go.Proofs.YtbjhemglecllmaaDoor
open Go.RowKit Go.Tw Go.Tw.Ord Go.Tw.Ps Go.Sort
theorem isNaN_string_any (a : ByteArray) (w : World) :
    Calls Tryd.prog 79 #[.string a] w fun e w' => e = .returned (.bool false) ∧ w' = w := by
  have h1 : (a.toList == a.toList) = true := by simp
  go_enter Tryd.func79, Tryd.ntmps79
  go_wp2
  go_ret
  exact ⟨rfl, rfl⟩
theorem cmpS_eq (a b : ByteArray) : cmpS a b = (if Op.bytesLess a.toList b.toList = true then -1 else if (a.toList == b.toList) = true then 0 else 1) := by
  unfold cmpS
  rw [less_str, eq_str]
  simp only [decide_eq_true_eq]
theorem cmpI_eq (x y : Int) : Lib.compareInt x y = cmpI x y := by
  unfold Lib.compareInt cmpI
  rfl
set_option maxHeartbeats 1000000 in
theorem Compare_string_any (a b : ByteArray) (w : World) :
    Calls Tryd.prog 63 #[.string a, .string b] w fun e w' => e = .returned (.int .i64 (cmpS a b)) ∧ w' = w := by
  have hq := cmpS_eq a b
  rcases Bool.eq_false_or_eq_true (Op.bytesLess a.toList b.toList) with h1 | h1
  all_goals rcases Bool.eq_false_or_eq_true (a.toList == b.toList) with h2 | h2
  all_goals
    have HR := hq
    rw [h1, h2] at HR
    have HR' := Lib.hid HR
    clear HR
    have HQ := Lib.hid hq
    clear hq
    go_enter Tryd.func63, Tryd.ntmps63
    go_wp2_with (go_at_call 79; refine (isNaN_string_any _ _).mono ?_; rintro e w' ⟨rfl, rfl⟩)
    go_ret
    exact ⟨ret_int HR'.out, rfl⟩
theorem Compare_int_any (x y : Int) (w : World) :
    Calls Tryd.prog 64 #[.int .i64 x, .int .i64 y] w fun e w' => e = .returned (.int .i64 (cmpI x y)) ∧ w' = w := by
  rw [← cmpI_eq]
  exact Tryd.cmp_Compare_int x y w
set_option maxHeartbeats 1000000 in
theorem Or_any (l : List Int) (g : Nat) (w : World) (h : Row 3 w g l) (hl : l.length ≤ 100) :
    Calls Tryd.prog 62 #[.slice (some ⟨g, 0, none⟩) l.length l.length] w fun e w' => e = .returned (.int .i64 (orL l)) ∧ w' = w := by
  have HC := Lib.hid h
  clear h
  go_enter Tryd.func62, Tryd.ntmps62
  go_wp2
  go_loopg [8] l.length (fun gx i wr => ∃ k : Nat, k + gx = l.length ∧ i = .int .i64 k ∧ orL l = orL (l.drop k) ∧ wr = w)
  case atStart => exact ⟨0, by omega, rfl, rfl, rfl⟩
  case round =>
    obtain ⟨k, hk, rfl, he, rfl⟩ := hrel
    have HE := Lib.hid he
    clear he
    by_cases hlt : k < l.length
    · have k0 : (0 : Int) ≤ (k : Int) := by omega
      have k1 : (k : Int) < (l.length : Int) := by omega
      have c0 := HC.out.cell hlt
      have HD := Lib.hid (show orL (l.drop k) = if l[k] = 0 then orL (l.drop (k + 1)) else l[k] by rw [List.drop_eq_getElem_cons hlt, orL])
      obtain ⟨y, hy⟩ : ∃ y, l[k] = y := ⟨_, rfl⟩
      rw [hy] at c0 HD
      clear hy
      by_cases hz : y = 0
      · subst hz
        go_wp2
        go_roundg (l.length - (k + 1))
        case measure => omega
        case rel => exact ⟨k + 1, by omega, by go_num, by rw [HE.out, HD.out]; simp, rfl⟩
      · have hz' : (y != 0) = true := by simp [hz]
        have HZ := Lib.hid hz
        clear hz
        go_wp2
        go_ret
        exact ⟨ret_int (HE.out.trans (HD.out.trans (if_neg HZ.out))), rfl⟩
    · have hkl : ¬ (k : Int) < (l.length : Int) := by omega
      have HN := Lib.hid (show orL l = 0 by rw [HE.out, List.drop_eq_nil_of_le (by omega), orL])
      go_wp2
      go_ret
      exact ⟨ret_int HN.out, rfl⟩
theorem grC {w : World} {b : Nat} {A : Array Value} {t : TypeId} (h : w.heap[b]? = some (.cells A t (0, 0))) (j : Nat) {v : Value} (hv : A[j]? = some v) (n : Nat) (os : Array Obj) : (grow (w.drewN n) os).cell? ⟨b, j, none⟩ = some v := by
  refine cell_grown (lt_of_heap h) ?_ n os
  rw [cell_of_row _ _ _ _ _ _ h, hv]
theorem gr_same {a b : World} (h : b = a) : ∃ q os', b = grow (a.drewN q) os' := ⟨0, #[], by rw [h, grow_empty]; rfl⟩
set_option maxRecDepth 100000 in
set_option maxHeartbeats 2000000 in
theorem source_any (x y : Src) (w : World) : Calls Tryd.prog 37 #[.agg (srcCells x).toArray, .agg (srcCells y).toArray] w fun e w' => e = .returned (.int .i64 (srcC x y)) ∧ GrB w w' := by
  show Calls Tryd.prog 37 #[.agg #[.string x.dev, .int .i64 x.seq], .agg #[.string y.dev, .int .i64 y.seq]] w _
  go_enter Tryd.func37, Tryd.ntmps37
  go_upto_region 1 with (fail)
  have n0 := alloc2_0 w (.cells #[.string x.dev, .int .i64 x.seq] 54) (.cells #[.string y.dev, .int .i64 y.seq] 54)
  have n1 := alloc2_1 w (.cells #[.string x.dev, .int .i64 x.seq] 54) (.cells #[.string y.dev, .int .i64 y.seq] 54)
  have hb : GrB w ((w.alloc (.cells #[.string x.dev, .int .i64 x.seq] 54)).alloc (.cells #[.string y.dev, .int .i64 y.seq] 54)) := ((GrB.refl w).alloc _).alloc _
  obtain ⟨wa, hwa⟩ : ∃ wa, (w.alloc (.cells #[.string x.dev, .int .i64 x.seq] 54)).alloc (.cells #[.string y.dev, .int .i64 y.seq] 54) = wa := ⟨_, rfl⟩
  rw [hwa] at n0 n1 hb ⊢
  clear hwa
  have HB := Lib.hid hb
  clear hb
  have a0 := fun n os => grC n0 0 (v := .string x.dev) rfl n os
  have a1 := fun n os => grC n0 1 (v := .int .i64 x.seq) rfl n os
  have b0 := fun n os => grC n1 0 (v := .string y.dev) rfl n os
  have b1 := fun n os => grC n1 1 (v := .int .i64 y.seq) rfl n os
  clear n0 n1
  refine wp_region_grown_tail 10 (by kernel_rfl) (by kernel_rfl) ?_
  simp only [List.take_succ_cons, List.take_zero, List.drop_succ_cons, List.drop_zero]
  (repeat (quiet_step (first
                         | (go_at_call 64; with_reducible exact Calls.grown_of ((Compare_int_any _ _ _).mono (fun _ _ h => ⟨h.1, gr_same h.2⟩)))
                         | (go_at_call 63; with_reducible exact Calls.grown_of ((Compare_string_any _ _ _).mono (fun _ _ h => ⟨h.1, gr_same h.2⟩))))))
  refine wpQuiet_nil ?_
  intro wq hq
  have HQ := Lib.hid (show GrB wa wq from by obtain ⟨⟨n, os⟩, rfl⟩ := hq; exact ⟨n, os, rfl⟩)
  clear hq a0 a1 b0 b1
  have HR := Lib.hid (show srcC x y = orL [cmpS x.dev y.dev, cmpI x.seq y.seq] from rfl)
  generalize cmpS x.dev y.dev = z0 at *
  generalize cmpI x.seq y.seq = z1 at *
  have HOR := Lib.hid (show ∀ (g : Nat) (w : World), Row 3 w g [z0, z1] → Calls Tryd.prog 62 #[.slice (some ⟨g, 0, none⟩) 2 2] w fun e w' => e = .returned (.int .i64 (orL [z0, z1])) ∧ w' = w from fun g w h => Or_any [z0, z1] g w h (by simp))
  go_wp2_with (go_at_call 62; refine (HOR.out _ _ (by exact heap_alloc_new _ _)).mono ?_; rintro e w' ⟨rfl, rfl⟩)
  go_ret
  exact ⟨ret_int HR.out, (HB.out.trans HQ.out).alloc _⟩
/-- the cells of a row of sources -/
theorem src_row {S : Nat → Prop} {w : World} {v : Value} {l : List Src} (h : SlIs tSrc S w v l) :
    ∃ ao cap b off, v = .slice ao l.length cap ∧ l.length ≤ cap ∧ cap ≤ maxLen ∧ ∀ w', SameOn S w w' → ∀ k (_ : k < l.length), ao = some ⟨b, off, none⟩ ∧ S b ∧ b < w.heap.size ∧ SrcOk l[k] ∧
      w'.cell? ⟨b, off + k * 2, none⟩ = some (.string l[k].dev) ∧ w'.cell? ⟨b, off + k * 2 + 1, none⟩ = some (.int .i64 l[k].seq) := by
  obtain ⟨ao, cap, b, off, hv, h1, h2, h3⟩ := h.openS
  refine ⟨ao, cap, b, off, hv, h1, h2, fun w' hw k hk => ?_⟩
  obtain ⟨g1, g2, g2', cs, g3, g4⟩ := h3 w' hw k hk
  obtain ⟨rfl, g5⟩ := tSrc_is g4
  exact ⟨g1, g2, g2', g5, g3 0 (by decide), g3 1 (by decide)⟩
set_option maxRecDepth 100000 in
set_option maxHeartbeats 4000000 in
theorem cmpF_any (l m : List Src) (vl vm : Value) (w : World) (h1 : SlIs tSrc (· < w.heap.size) w vl l) (h2 : SlIs tSrc (· < w.heap.size) w vm m) :
    Calls Tryd.prog 73 #[vl, vm, .func (.func 37) #[] #[]] w fun e w' => e = .returned (.int .i64 (listC l m)) ∧ GrB w w' := by
  obtain ⟨ao, cp, b, o, rfl, q1, q2, ho⟩ := src_row h1
  obtain ⟨ao2, cp2, b2, o2, rfl, q3, q4, ho2⟩ := src_row h2
  unfold maxLen at q2 q4
  have HO := Lib.hid ho
  have HO2 := Lib.hid ho2
  clear h1 h2 ho ho2
  go_enter Tryd.func73, Tryd.ntmps73
  go_wp2
  go_loopg [13] l.length (fun gx i wr => ∃ k : Nat, k + gx = l.length ∧ i = .int .i64 k ∧ k ≤ m.length ∧ Hid (listC l m = listC (l.drop k) (m.drop k)) ∧ GrB w wr)
  case atStart => exact ⟨0, by omega, rfl, Nat.zero_le _, Lib.hid rfl, GrB.refl _⟩
  case round =>
    obtain ⟨k, hk, rfl, hkm, HT, hb⟩ := hrel
    have HB := Lib.hid hb
    by_cases hlt : k < l.length
    · obtain ⟨rfl, -, hbk, -, c0, c1⟩ := HO.out wr (.of_below hb.below) k hlt
      have k0 : (0 : Int) ≤ (k : Int) := by omega
      have k1 : (k : Int) < (l.length : Int) := by omega
      by_cases hlm : k < m.length
      · obtain ⟨rfl, -, hbk2, -, d0, d1⟩ := HO2.out wr (.of_below hb.below) k hlm
        have k2 : (k : Int) < (m.length : Int) := by omega
        have HD := Lib.hid (listC_drop hlt hlm)
        generalize l[k] = x at HD c0 c1
        generalize m[k] = y at HD d0 d1
        obtain ⟨c, hc⟩ : ∃ c, srcC x y = c := ⟨_, rfl⟩
        have HS := Lib.hid (fun w => source_any x y w)
        simp only [srcCells] at HS
        rw [hc] at HD HS
        have hb1 : b < wr.heap.size := Nat.lt_of_lt_of_le hbk hb.below.size
        have hb2 : b2 < wr.heap.size := Nat.lt_of_lt_of_le hbk2 hb.below.size
        clear hc hb hbk hbk2
        by_cases hz : c = 0
        · have hz' : (c != 0) = false := by simp [hz]
          have HZ := Lib.hid hz
          clear hz
          go_wp2_with (go_at_call 37
                       refine (HS.out _).mono ?_
                       rintro e w1 ⟨rfl, hg1⟩
                       have HG1 := Lib.hid hg1
                       clear hg1)
          go_roundg (l.length - (k + 1))
          case measure => omega
          case rel => exact ⟨k + 1, by omega, by go_num, by omega, Lib.hid (by rw [HT.out, HD.out, if_pos HZ.out]), HB.out.trans (((GrB.refl _).alloc _).alloc _ |>.trans HG1.out)⟩
        · have hz' : (c != 0) = true := by simp [hz]
          have HZ := Lib.hid hz
          clear hz
          go_wp2_with (go_at_call 37
                       refine (HS.out _).mono ?_
                       rintro e w1 ⟨rfl, hg1⟩
                       have HG1 := Lib.hid hg1
                       clear hg1)
          go_ret
          exact ⟨ret_int (by rw [HT.out, HD.out, if_neg HZ.out]), HB.out.trans (((GrB.refl _).alloc _).alloc _ |>.trans HG1.out)⟩
      · have hkm2 : (k : Int) ≥ (m.length : Int) := by omega
        have HE := Lib.hid (listC_end (l := l) (m := m) (k := k) (by omega) (by omega) (.inr (by omega)))
        have hcI : cmpI l.length m.length = 1 := by unfold cmpI; rw [if_neg (by omega), if_pos (by omega)]
        have HCI := Lib.hid hcI
        clear hcI hb hbk
        go_wp2_with (fail)
        go_ret
        exact ⟨ret_int (by rw [HT.out, HE.out, HCI.out]), HB.out.trans ((GrB.refl _).alloc _)⟩
    · have hkl : ¬ (k : Int) < (l.length : Int) := by omega
      have HE := Lib.hid (listC_end (l := l) (m := m) (k := k) (by omega) (by omega) (.inl (by omega)))
      clear hb
      by_cases hlm : (l.length : Int) < (m.length : Int)
      · have HCI := Lib.hid (show cmpI l.length m.length = -1 by unfold cmpI; rw [if_pos (by omega)])
        go_wp2_with (fail)
        go_ret
        exact ⟨ret_int (by rw [HT.out, HE.out, HCI.out]), HB.out⟩
      · have HCI := Lib.hid (show cmpI l.length m.length = 0 by unfold cmpI; rw [if_neg (by omega), if_neg (by omega)])
        go_wp2_with (fail)
        go_ret
        exact ⟨ret_int (by rw [HT.out, HE.out, HCI.out]), HB.out⟩
theorem cmpF_ex {l m : List Src} {vl vm : Value} {w : World} (h1 : SlIs tSrc (· < w.heap.size) w vl l) (h2 : SlIs tSrc (· < w.heap.size) w vm m) : ∀ n os,
    Calls Tryd.prog 73 #[vl, vm, .func (.func 37) #[] #[]] (grow (w.drewN n) os) fun e w' => e = .returned (.int .i64 (listC l m)) ∧ ∃ q os', w' = grow ((grow (w.drewN n) os).drewN q) os' := fun n os =>
  cmpF_any l m vl vm _ (SlIs.step h1 (GrB.below ⟨n, os, rfl⟩)) (SlIs.step h2 (GrB.below ⟨n, os, rfl⟩))
set_option maxRecDepth 100000 in
set_option maxHeartbeats 4000000 in
theorem compare_any (x y : Pas) (vx vy : Value) (w : World) (h1 : SlIs tSrc (· < w.heap.size) w vx x.src) (h2 : SlIs tSrc (· < w.heap.size) w vy y.src) : Calls Tryd.prog 48 #[.agg (pCells x vx).toArray, .agg (pCells y vy).toArray] w fun e w' => e = .returned (.int .i64 (pasC x y)) ∧ GrB w w' := by
  obtain ⟨A, hA⟩ : ∃ A, (pCells x vx).toArray = A := ⟨_, rfl⟩
  obtain ⟨B, hB⟩ : ∃ A, (pCells y vy).toArray = A := ⟨_, rfl⟩
  rw [hA, hB]
  have HA := Lib.hid hA
  have HB' := Lib.hid hB
  obtain ⟨av, cv, _, _, rfl, -⟩ := id h1
  obtain ⟨au, cu, _, _, rfl, -⟩ := id h2
  have H1 := Lib.hid h1
  have H2 := Lib.hid h2
  clear hA hB h1 h2
  go_enter Tryd.func48, Tryd.ntmps48
  go_upto_region 1 with (fail)
  have n0 := alloc2_0 w (.cells A 24) (.cells B 24)
  have n1 := alloc2_1 w (.cells A 24) (.cells B 24)
  have hb : GrB w ((w.alloc (.cells A 24)).alloc (.cells B 24)) := ((GrB.refl w).alloc _).alloc _
  obtain ⟨wa, hwa⟩ : ∃ wa, (w.alloc (.cells A 24)).alloc (.cells B 24) = wa := ⟨_, rfl⟩
  rw [hwa] at n0 n1 hb ⊢
  clear hwa
  have HB := Lib.hid hb
  have HCF := Lib.hid (cmpF_ex (SlIs.step H1.out hb.below) (SlIs.step H2.out hb.below))
  clear hb
  have a0 := fun n os => grC n0 0 (v := .string x.id) (by rw [← HA.out]; rfl) n os
  have a1 := fun n os => grC n0 1 (v := .string x.pt) (by rw [← HA.out]; rfl) n os
  have a2 := fun n os => grC n0 2 (v := .int .i64 x.tm) (by rw [← HA.out]; rfl) n os
  have a3 := fun n os => grC n0 3 (v := .string x.tag) (by rw [← HA.out]; rfl) n os
  have a4 := fun n os => grC n0 4 (v := .string x.plt) (by rw [← HA.out]; rfl) n os
  have a5 := fun n os => grC n0 5 (v := .int .i64 x.cls) (by rw [← HA.out]; rfl) n os
  have a6 := fun n os => grC n0 6 (v := .int .i64 x.sco) (by rw [← HA.out]; rfl) n os
  have a7 := fun n os => grC n0 7 (v := .slice av x.src.length cv) (by rw [← HA.out]; rfl) n os
  have b0 := fun n os => grC n1 0 (v := .string y.id) (by rw [← HB'.out]; rfl) n os
  have b1 := fun n os => grC n1 1 (v := .string y.pt) (by rw [← HB'.out]; rfl) n os
  have b2 := fun n os => grC n1 2 (v := .int .i64 y.tm) (by rw [← HB'.out]; rfl) n os
  have b3 := fun n os => grC n1 3 (v := .string y.tag) (by rw [← HB'.out]; rfl) n os
  have b4 := fun n os => grC n1 4 (v := .string y.plt) (by rw [← HB'.out]; rfl) n os
  have b5 := fun n os => grC n1 5 (v := .int .i64 y.cls) (by rw [← HB'.out]; rfl) n os
  have b6 := fun n os => grC n1 6 (v := .int .i64 y.sco) (by rw [← HB'.out]; rfl) n os
  have b7 := fun n os => grC n1 7 (v := .slice au y.src.length cu) (by rw [← HB'.out]; rfl) n os
  clear n0 n1
  refine wp_region_grown_tail 40 (by kernel_rfl) (by kernel_rfl) ?_
  simp only [List.take_succ_cons, List.take_zero, List.drop_succ_cons, List.drop_zero]
  (repeat (quiet_step (first
    | (go_at_call 73; with_reducible exact Calls.grown_of (HCF.out _ _))
    | (first
         | (go_at_call 64; with_reducible exact Calls.grown_of ((Compare_int_any _ _ _).mono (fun _ _ h => ⟨h.1, gr_same h.2⟩)))
         | (go_at_call 63; with_reducible exact Calls.grown_of ((Compare_string_any _ _ _).mono (fun _ _ h => ⟨h.1, gr_same h.2⟩)))))))
  refine wpQuiet_nil ?_
  intro wq hq
  have HQ := Lib.hid (show GrB wa wq from by obtain ⟨⟨n, os⟩, rfl⟩ := hq; exact ⟨n, os, rfl⟩)
  clear hq a0 a1 a2 a3 a4 a5 a6 a7 b0 b1 b2 b3 b4 b5 b6 b7 HCF
  have HR := Lib.hid (show pasC x y = orL [cmpI x.tm y.tm, cmpS x.pt y.pt, cmpS x.id y.id, cmpS x.tag y.tag, cmpS x.plt y.plt, cmpI x.cls y.cls, cmpI x.sco y.sco, listC x.src y.src] from rfl)
  generalize cmpI x.tm y.tm = z0 at *
  generalize cmpS x.pt y.pt = z1 at *
  generalize cmpS x.id y.id = z2 at *
  generalize cmpS x.tag y.tag = z3 at *
  generalize cmpS x.plt y.plt = z4 at *
  generalize cmpI x.cls y.cls = z5 at *
  generalize cmpI x.sco y.sco = z6 at *
  generalize listC x.src y.src = z7 at *
  have HOR := Lib.hid (show ∀ (g : Nat) (w : World), Row 3 w g [z0, z1, z2, z3, z4, z5, z6, z7] → Calls Tryd.prog 62 #[.slice (some ⟨g, 0, none⟩) 8 8] w fun e w' => e = .returned (.int .i64 (orL [z0, z1, z2, z3, z4, z5, z6, z7])) ∧ w' = w from fun g w h => Or_any [z0, z1, z2, z3, z4, z5, z6, z7] g w h (by simp))
  go_wp2_with (go_at_call 62; refine (HOR.out _ _ (by exact heap_alloc_new _ _)).mono ?_; rintro e w' ⟨rfl, rfl⟩)
  go_ret
  exact ⟨ret_int HR.out, (HB.out.trans HQ.out).alloc _⟩
end Go.Proofs.YtbjhemglecllmaaDoor
/-
  A region whose operations are quiet, walked in the order of the text, whether an operation is wanted told by the kernel: no new goal bears the 'if' of the guard (Lean would evaluate it, exponentially in the guards). No program in sight.
-/
namespace Go.Tw
section
variable {P : Program} {ops : Array Oper} {C : World → Prop}
/-- the walk's goal, shut -/
structure QW (P : Program) (ops : Array Oper) (C : World → Prop) (Q : Act → Prop) (l : List Oper) (a : Act) : Prop where
  out : wpQuiet P ops C Q l a
theorem QW.yes {Q : Act → Prop} {a : Act} {o : Oper} {rest : List Oper} (hw : Region.wanted o (yielded ops a.tmps) = true) (h : ∀ K : Act → Prop, (∀ a, QW P ops C Q rest a → K a) → o.quiet P a C K) : QW P ops C Q (o :: rest) a :=
  ⟨wpQuiet_step (fun K hK => by rw [if_pos hw]; exact h K (fun a ha => hK a ha.out))⟩
theorem QW.no {Q : Act → Prop} {a : Act} {o : Oper} {rest : List Oper} (hw : Region.wanted o (yielded ops a.tmps) = false) (h : QW P ops C Q rest (a.put o.dst undef)) : QW P ops C Q (o :: rest) a :=
  ⟨wpQuiet_step (fun K hK => by rw [if_neg (by rw [hw]; decide)]; exact hK _ h.out)⟩
theorem QW.nil {Q : Act → Prop} {a : Act} (h : Q a) : QW P ops C Q [] a := ⟨wpQuiet_nil h⟩
theorem QW.region {id : Nat} {Q : Exit → Act → World → Prop} {a : Act} {w : World} {l : List Oper} (hm : P.follows .mixedOrders = true) (hB : Region.lexB .any l.toArray = true)
    (h : QW P l.toArray (fun w' => ∃ p : Regrown, w' = Go.Sort.grow (redrawn w p.d) p.os) (fun a' => ∀ w', (∃ p : Regrown, w' = Go.Sort.grow (redrawn w p.d) p.os) → Q .normal a' w') l a) : (Code.region id l.toArray true).wp P Q a w :=
  wp_region_quiet_below hm hB h.out
end
end Go.Tw
/-
  Aggregates taken whole: loads, new variables and stores of structs of many cells, the cells a name. No program in sight.
-/
namespace Go.Tw
open Go.RowKit
section
variable {P : Program}
theorem run_loadA {t : TypeId} {p : Addr} {A : Array Value} {n : Nat} {w : World} (hag : ∀ w, (isAgg t).run P w = .ok true w) (hsz : ∀ w, (sizeOf t).run P w = .ok n w) (hld : Sem.run P (loadCellsFrom p 0 n #[]) w = .ok A w) :
    Sem.run P (Instr.loadAt t (.pointer (some p))) w = .ok (.agg A) w := by
  unfold Instr.loadAt Instr.sureAddr loadVar
  simp only [Sem.run_bind, Sem.run_pure, Result.andThen_ok, hag, if_true]
  simp only [Result.andThen_ok, hsz, loadCells, hld]
theorem exec_loadA {o : Oper} {a : Act} {w : World} {x : Operand} {t : TypeId} (ho : o.op = .load t x) {p : Addr} {A : Array Value} {n : Nat} (hag : ∀ w, (isAgg t).run P w = .ok true w) (hsz : ∀ w, (sizeOf t).run P w = .ok n w)
    (hx : a.eval x = .pointer (some p)) (hld : Sem.run P (loadCellsFrom p 0 n #[]) w = .ok A w) : (execOp a.eval o).run P w = .ok (.value (.agg A)) w := by
  unfold execOp
  simp only [ho, hx, Sem.run_bind, Sem.run_pure, Result.andThen_ok, run_loadA hag hsz hld]
theorem wpList_loadA {ops : Array Oper} {rest : List Oper} {o : Oper} {a : Act} {w : World} {Q : Exit → Act → World → Prop} (x : Operand) (hgd : o.guard = none) (t : TypeId) (ho : o.op = .load t x) {p : Addr} {A : Array Value} {n : Nat} (hag : ∀ w, (isAgg t).run P w = .ok true w) (hsz : ∀ w, (sizeOf t).run P w = .ok n w)
    (hx : a.eval x = .pointer (some p)) (hld : Sem.run P (loadCellsFrom p 0 n #[]) w = .ok A w) (h : wpList P ops Q rest (a.put o.dst (.agg A)) w) : wpList P ops Q (o :: rest) a w :=
  wpList_plain hgd fun _ hK => by
    unfold Oper.wp
    rw [exec_loadA ho hag hsz hx hld]
    exact hK _ _ h
/-- .. in a drawing region, quiet -/
theorem quiet_loadA {o : Oper} {a : Act} {C : World → Prop} {K : Act → Prop} {x : Operand} {t : TypeId} (ho : o.op = .load t x) {p : Addr} {A : Array Value} {n : Nat} (hag : ∀ w, (isAgg t).run P w = .ok true w) (hsz : ∀ w, (sizeOf t).run P w = .ok n w)
    (hx : a.eval x = .pointer (some p)) (hld : ∀ w, C w → Sem.run P (loadCellsFrom p 0 n #[]) w = .ok A w) (h : K (a.put o.dst (.agg A))) : o.quiet P a C K :=
  ⟨.agg A, fun w hw => by
    unfold Oper.quietAt
    rw [exec_loadA ho hag hsz hx (hld w hw)]
    exact ⟨rfl, rfl⟩, h⟩
theorem alloc_setRow (w : World) (Z A : Array Value) (t : TypeId) : (w.alloc (.cells Z t)).setRow w.heap.size A = w.alloc (.cells A t) := by
  have hb : ∀ k, ((w.alloc (.cells Z t)).setRow w.heap.size A).heap[k]? = (w.alloc (.cells A t)).heap[k]? := fun k => by
    by_cases e : k = w.heap.size
    · subst e
      rw [setRow_heap _ _ Z A t (0, 0) (heap_alloc_new _ _)]
      exact (heap_alloc_new _ _).symm
    · rw [setRow_other _ _ _ _ e]
      by_cases hk : k < w.heap.size
      · rw [Below.heap_alloc _ _ _ hk, Below.heap_alloc _ _ _ hk]
      · rw [Array.getElem?_eq_none (by simp; omega), Array.getElem?_eq_none (by simp; omega)]
  unfold World.setRow at hb ⊢
  unfold World.alloc at hb ⊢
  congr 1
  exact Array.ext_getElem? hb
theorem run_newA {t : TypeId} {n : Nat} {z : Array Value} {A : Array Value} {w : World} (hsz : ∀ w, (sizeOf t).run P w = .ok n w) (hz : z.size = n) (hA : A.size = n) (h1 : ∀ v ∈ A.toList, v.oneCell' = true) :
    Sem.run P (Instr.storeAt t (.pointer (some ⟨w.heap.size, 0, none⟩)) (.agg A)) (w.alloc (.cells z t)) = .ok () (w.alloc (.cells A t)) := by
  unfold Instr.storeAt Instr.sureAddr storeVar
  simp only [Sem.run_bind, Sem.run_pure, Result.andThen_ok, hsz, Value.cells]
  simp only [hA, ne_eq, not_true_eq_false, ↓reduceIte]
  have := run_storeCells_at P w.heap.size 0 t A.toList 0 z (w.alloc (.cells z t)) (heap_alloc_new _ _) (by simp [hA, hz]) h1
  rw [this]
  congr 1
  rw [← alloc_setRow w z A t]
  congr 1
  have e : z.size ≤ A.size := by omega
  simp [List.drop_eq_nil_of_le, e]
/-- a new variable, and a whole aggregate stored into it -/
theorem wpList_newA {ops : Array Oper} {rest : List Oper} {o1 o2 : Oper} {a : Act} {w : World} {Q : Exit → Act → World → Prop} (d : Nat) (hd : o1.dst = some d) (x : Operand) (hg1 : o1.guard = none) (hg2 : o2.guard = none) (t : TypeId) (ho1 : o1.op = .alloc t) (ho2 : o2.op = .store t (.tmp d) x) (hd2 : o2.dst = none)
    {A z : Array Value} {n : Nat} (hsz : ∀ w, (sizeOf t).run P w = .ok n w) (hzv : ∀ w, (zeroValue t).run P w = .ok (.agg z) w) (hz : z.size = n) (hA : A.size = n) (h1 : ∀ v ∈ A.toList, v.oneCell' = true)
    (hlt : d < a.tmps.size) (hx : (a.put (some d) (.pointer (some ⟨w.heap.size, 0, none⟩))).eval x = .agg A)
    (h : wpList P ops Q rest (a.put (some d) (.pointer (some ⟨w.heap.size, 0, none⟩))) (w.alloc (.cells A t))) : wpList P ops Q (o1 :: o2 :: rest) a w := by
  refine wpList_plain hg1 fun _ hK => ?_
  have e1 : (execOp a.eval o1).run P w = .ok (.value (.pointer (some ⟨w.heap.size, 0, none⟩))) (w.alloc (.cells z t)) := by
    unfold execOp
    simp only [ho1, Instr.alloc, Sem.run_bind, Sem.run_pure, Result.andThen_ok, hzv, newVar, newRow, Value.cells, run_newObj_alloc]
  unfold Oper.wp
  rw [e1]
  refine hK _ _ ?_
  rw [hd]
  refine wpList_plain hg2 fun _ hK2 => ?_
  have e2 : (execOp (a.put (some d) (.pointer (some ⟨w.heap.size, 0, none⟩))).eval o2).run P (w.alloc (.cells z t)) = .ok .skip (w.alloc (.cells A t)) := by
    unfold execOp
    have he : (a.put (some d) (.pointer (some ⟨w.heap.size, 0, none⟩))).eval (.tmp d) = .pointer (some ⟨w.heap.size, 0, none⟩) := by
      simp [Act.put, Act.eval, hlt]
    simp only [ho2, hx, he, Sem.run_bind, Sem.run_pure, Result.andThen_ok, run_newA hsz hz hA h1]
  unfold Oper.wp
  rw [e2]
  refine hK2 _ _ ?_
  rw [hd2]
  exact h
theorem foldl_set_get : ∀ (l : List Value) (k : Nat) (cs : Array Value) (t : Nat), k + l.length ≤ cs.size → ((l.zipIdx k).foldl (fun cs (p : Value × Nat) => cs.setIfInBounds (0 + p.2) p.1) cs)[t]? = if k ≤ t ∧ t < k + l.length then l[t - k]? else cs[t]?
  | [], k, cs, t, _ => by simp; omega
  | v :: l, k, cs, t, h => by
    simp only [List.length_cons] at h ⊢
    rw [List.zipIdx_cons, List.foldl_cons, foldl_set_get l (k + 1) _ t (by simp; omega)]
    simp only [Nat.zero_add]
    by_cases h1 : t = k
    · subst h1
      rw [if_neg (by omega), if_pos (by omega), Array.getElem?_setIfInBounds, if_pos rfl, if_pos (by omega)]
      simp
    · by_cases h2 : k + 1 ≤ t ∧ t < k + 1 + l.length
      · rw [if_pos h2, if_pos (by omega), show t - k = (t - (k + 1)) + 1 by omega, List.getElem?_cons_succ]
      · rw [if_neg h2, if_neg (by omega), Array.getElem?_setIfInBounds, if_neg (fun e => h1 e.symm)]
theorem foldl_set_all (A cs : Array Value) (h : A.size = cs.size) : A.zipIdx.foldl (fun cs (p : Value × Nat) => cs.setIfInBounds (0 + p.2) p.1) cs = A := by
  have e : A.zipIdx.foldl (fun cs (p : Value × Nat) => cs.setIfInBounds (0 + p.2) p.1) cs = (A.toList.zipIdx 0).foldl (fun cs (p : Value × Nat) => cs.setIfInBounds (0 + p.2) p.1) cs := by
    rw [← Array.foldl_toList, Array.toList_zipIdx]
  rw [e]
  apply Array.ext_getElem?
  intro t
  rw [foldl_set_get _ _ _ _ (by simp [h])]
  by_cases ht : t < A.size
  · rw [if_pos (by simp; omega)]; simp
  · rw [if_neg (by simp; omega), Array.getElem?_eq_none (by omega), Array.getElem?_eq_none (by omega)]
theorem run_buildA {ty e : TypeId} {n : Nat} {z A : Array Value} {w : World} (hu : P.underlying ty = some (.slice e)) (hsz : ∀ w, (sizeOf e).run P w = .ok n w) (hzv : ∀ w, (zeroValue e).run P w = .ok (.agg z) w) (hn : 0 < n) (hn2 : n ≤ 1000) (hA : A.size = n) :
    Sem.run P (Instr.buildSlice ty 1 #[(0, .agg A)]) w = .ok (.slice (some ⟨w.heap.size, 0, none⟩) 1 1) (w.alloc (.cells A e)) := by
  have hr := run_underlying (P := P) hu
  have h1 : ¬ (1 * n > 2 ^ 24) := by omega
  have h2 : ¬ (1 * n = 0) := by omega
  have hf := foldl_set_all A ((Array.range (1 * n)).map (z[· % z.size]!)) (by simp [hA])
  unfold Instr.buildSlice
  simp only [Sem.run_bind, Result.andThen_ok, hr, hsz]
  simp only [h1, h2, ↓reduceIte, Sem.run_bind, Sem.run_pure, Result.andThen_ok, hzv, Value.cells]
  have hfill : Instr.fill (fun i => some (i * n, n)) ((Array.range (1 * n)).map (z[· % z.size]!)) [(0, .agg A)] = some A := by
    unfold Instr.fill
    simp only [Value.cells, Nat.zero_mul]
    rw [if_neg (by simp [hA])]
    unfold Instr.fill
    rw [hf]
  simp only [hfill]
  simp only [Sem.run_bind, Sem.run_pure, Result.andThen_ok, newRow, run_newObj_alloc]
theorem wpList_buildA {ops : Array Oper} {rest : List Oper} {o : Oper} {a : Act} {w : World} {Q : Exit → Act → World → Prop} (x : Operand) (hgd : o.guard = none) (ty : TypeId) (ho : o.op = .buildSlice ty 1 #[(0, x)]) {e : TypeId} {n : Nat} {z A : Array Value} (hu : P.underlying ty = some (.slice e)) (hsz : ∀ w, (sizeOf e).run P w = .ok n w) (hzv : ∀ w, (zeroValue e).run P w = .ok (.agg z) w) (hn : 0 < n) (hn2 : n ≤ 1000)
    (hx : a.eval x = .agg A) (hA : A.size = n) (h : wpList P ops Q rest (a.put o.dst (.slice (some ⟨w.heap.size, 0, none⟩) 1 1)) (w.alloc (.cells A e))) : wpList P ops Q (o :: rest) a w :=
  wpList_plain hgd fun _ hK => by
    have e1 : (execOp a.eval o).run P w = .ok (.value (.slice (some ⟨w.heap.size, 0, none⟩) 1 1)) (w.alloc (.cells A e)) := by
      unfold execOp
      simp only [ho, hx, Sem.run_bind, Sem.run_pure, Result.andThen_ok, List.map_toArray, List.map_cons, List.map_nil, run_buildA hu hsz hzv hn hn2 hA]
    unfold Oper.wp
    rw [e1]
    exact hK _ _ h
end
end Go.Tw
/-
  Layers 01, 17: the walks of the reference's comparisons: Before, numbers, texts, Sources, lists, Compare, One.
-/
namespace Go.Tw
open Go.RowKit Go.Sort
theorem QW.regionG {P : Program} {id : Nat} {Q : Exit → Act → World → Prop} {a : Act} {w : World} {l : List Oper} (hm : P.follows .mixedOrders = true) (hB : Region.lexB .any l.toArray = true)
    (h : QW P l.toArray (fun w' => ∃ p : GrownBy, w' = grow (w.drewN p.n) p.os) (fun a' => ∀ w', (∃ p : GrownBy, w' = grow (w.drewN p.n) p.os) → Q .normal a' w') l a) : (Code.region id l.toArray true).wp P Q a w :=
  wp_region_quiet_grown hm hB h.out
end Go.Tw
namespace Go.Proofs.YtbjhemglecllmaaDoor
open Go.RowKit Go.Tw Go.Tw.Ord Go.Tw.Ps Go.Sort
theorem gr_drewN {a : World} (n : Nat) : GrB a (a.drewN n) := ⟨n, #[], by rw [grow_empty]⟩
set_option maxRecDepth 100000 in
set_option maxHeartbeats 1000000 in
theorem Before_gr (s t : ByteArray) (w : World) (_hs : s.size ≤ maxLen) (ht : t.size ≤ maxLen) :
    Calls Tryd.prog 32 #[.string s, .string t] w fun e w' => e = .returned (.bool (ltL (codes s) (codes t))) ∧ GrB w w' := by
  unfold maxLen at _hs ht
  go_enter Tryd.func32, Tryd.ntmps32
  go_wp2
  go_loopg [5] s.size (fun g i wr => ∃ k : Nat, k + g = s.size ∧ k ≤ t.size ∧ i = .int .i64 k ∧ ltL (codes s) (codes t) = ltL ((codes s).drop k) ((codes t).drop k) ∧ ∃ n, wr = w.drewN n)
  case atStart => exact ⟨0, by omega, by omega, rfl, rfl, 0, rfl⟩
  case round =>
    obtain ⟨k, hk, hkt, rfl, he, n, rfl⟩ := hrel
    have HE := Lib.hid he; clear he
    by_cases h1 : k < s.size
    case neg =>
      have h1d : decide ((k : Int) < (s.size : Int)) = false := by simp; omega
      have HF := Lib.hid (ltL_end (a := codes s) (b := codes t) (k := k) (by rw [codes_len]; omega) (by rw [codes_len]; omega) (.inl (by rw [codes_len]; omega)))
      go_wp2
      go_ret
      exact ⟨ret_bool (by rw [HE.out, HF.out, codes_len, codes_len]), gr_drewN _⟩
    by_cases h2 : k < t.size
    case neg =>
      have HF := Lib.hid (ltL_end (a := codes s) (b := codes t) (k := k) (by rw [codes_len]; omega) (by rw [codes_len]; omega) (.inr (by rw [codes_len]; omega)))
      go_wp2
      go_ret
      exact ⟨ret_bool (by rw [HE.out, HF.out, codes_len, codes_len]), gr_drewN _⟩
    have k0 : (0 : Int) ≤ (k : Int) := by omega
    have k1 : (k : Int) < (s.size : Int) := by omega
    have k2 : (k : Int) < (t.size : Int) := by omega
    have HD := Lib.hid (ltL_drop (a := codes s) (b := codes t) (k := k) (by rw [codes_len]; exact h1) (by rw [codes_len]; exact h2))
    rw [codes_get s h1, codes_get t h2] at HD
    rcases Bool.eq_false_or_eq_true ((s[k].toNat : Int) == (t[k].toNat : Int)) with heq | heq
    · have HQ := Lib.hid (show (s[k].toNat : Int) = (t[k].toNat : Int) by simpa using heq)
      have hne : ((s[k].toNat : Int) != (t[k].toNat : Int)) = false := by simp [bne, heq]
      go_wp2_with (go_quiet (fail))
      go_roundg (s.size - (k + 1))
      case measure => omega
      case rel => exact ⟨k + 1, by omega, by omega, by go_num, by rw [HE.out, HD.out, if_pos HQ.out], _, rfl⟩
    · have HQ := Lib.hid (show ¬ (s[k].toNat : Int) = (t[k].toNat : Int) by simpa using heq)
      have hne : ((s[k].toNat : Int) != (t[k].toNat : Int)) = true := by simp [bne, heq]
      go_wp2_with (go_quiet (fail))
      go_ret
      exact ⟨ret_bool (by rw [HE.out, HD.out, if_neg HQ.out]; simp), by rw [World.drewN_drewN, World.drewN_drewN]; exact gr_drewN _⟩
theorem numbers_any (x y : Int) (w : World) : Calls Tryd.prog 56 #[.int .i64 x, .int .i64 y] w fun e w' => e = .returned (.int .i64 (cmpI x y)) ∧ w' = w := by
  go_enter Tryd.func56, Tryd.ntmps56
  by_cases h1 : x < y
  · go_wp2
    go_ret
    exact ⟨ret_int (if_pos h1), rfl⟩
  · by_cases h2 : x > y
    · go_wp2
      go_ret
      exact ⟨ret_int (by unfold cmpI; rw [if_neg (by omega), if_pos (by omega)]), rfl⟩
    · go_wp2
      go_ret
      exact ⟨ret_int (by unfold cmpI; rw [if_neg (by omega), if_neg (by omega)]), rfl⟩
set_option maxHeartbeats 1000000 in
theorem texts_any (a b : ByteArray) (w : World) (ha : a.size ≤ maxLen) (hb : b.size ≤ maxLen) : Calls Tryd.prog 57 #[.string a, .string b] w fun e w' => e = .returned (.int .i64 (cmpS a b)) ∧ GrB w w' := by
  have HA := Lib.hid ha
  have HB := Lib.hid hb
  clear ha hb
  by_cases h : a = b
  · subst h
    have h1 : (a.toList == a.toList) = true := by simp
    go_enter Tryd.func57, Tryd.ntmps57
    go_wp2
    go_ret
    refine ⟨ret_int ?_, GrB.refl _⟩
    unfold cmpS
    rw [ltL_irrefl]
    simp
  · have h1 : (a.toList == b.toList) = false := by rw [eq_str]; simpa using h
    have HN := Lib.hid h
    clear h
    obtain ⟨c, hc⟩ : ∃ c, ltL (codes a) (codes b) = c := ⟨_, rfl⟩
    have HC := Lib.hid (fun w => Before_gr a b w HA.out HB.out)
    rw [hc] at HC
    have HD := Lib.hid hc
    clear hc
    go_enter Tryd.func57, Tryd.ntmps57
    cases c with
    | false =>
      go_wp2_with (go_at_call 32; refine (HC.out _).mono ?_; rintro e w' ⟨rfl, hg⟩; have HG := Lib.hid hg; clear hg)
      go_ret
      refine ⟨ret_int ?_, HG.out⟩
      unfold cmpS
      rw [HD.out, if_neg (by simp), if_neg HN.out]
    | true =>
      go_wp2_with (go_at_call 32; refine (HC.out _).mono ?_; rintro e w' ⟨rfl, hg⟩; have HG := Lib.hid hg; clear hg)
      go_ret
      refine ⟨ret_int ?_, HG.out⟩
      unfold cmpS
      rw [HD.out, if_pos rfl]
theorem texts_ex (a b : ByteArray) (ha : a.size ≤ maxLen) (hb : b.size ≤ maxLen) : ∀ w, Calls Tryd.prog 57 #[.string a, .string b] w fun e w' => e = .returned (.int .i64 (cmpS a b)) ∧ ∃ q os', w' = grow (w.drewN q) os' := fun w => texts_any a b w ha hb

set_option maxHeartbeats 2000000 in
theorem sourcesR_any (x y : Src) (w : World) (hx : SrcOk x) (hy : SrcOk y) : Calls Tryd.prog 69 #[.agg (srcCells x).toArray, .agg (srcCells y).toArray] w fun e w' => e = .returned (.int .i64 (srcC x y)) ∧ GrB w w' := by
  show Calls Tryd.prog 69 #[.agg #[.string x.dev, .int .i64 x.seq], .agg #[.string y.dev, .int .i64 y.seq]] w _
  have HT := Lib.hid (fun W => texts_any x.dev y.dev W hx.dev hy.dev)
  have HN := Lib.hid (fun W => numbers_any x.seq y.seq W)
  have HR := Lib.hid (show srcC x y = orL [cmpS x.dev y.dev, cmpI x.seq y.seq] from rfl)
  clear hx hy
  by_cases he : x.dev = y.dev
  · have h1 : (x.dev.toList == y.dev.toList) = true := by rw [eq_str]; simpa using he
    have HE := Lib.hid (show cmpS x.dev y.dev = 0 by rw [he]; unfold cmpS; rw [ltL_irrefl]; simp)
    clear he
    go_enter Tryd.func69, Tryd.ntmps69
    go_wp2_with (go_at_call 56
                 refine (HN.out _).mono ?_
                 rintro e w1 ⟨rfl, rfl⟩)
    go_ret
    exact ⟨ret_int (by rw [HR.out, orL, if_pos HE.out, orL, orL]; split <;> simp_all), ((GrB.refl _).alloc _).alloc _⟩
  · have h1 : (x.dev.toList == y.dev.toList) = false := by rw [eq_str]; simpa using he
    have HE := Lib.hid (show ¬ cmpS x.dev y.dev = 0 from fun h => he (cmpS_zero h))
    clear he
    go_enter Tryd.func69, Tryd.ntmps69
    go_wp2_with (go_at_call 57
                 refine (HT.out _).mono ?_
                 rintro e w1 ⟨rfl, hg1⟩
                 have HG1 := Lib.hid hg1
                 clear hg1)
    go_ret
    exact ⟨ret_int (by rw [HR.out, orL, if_neg HE.out]), (((GrB.refl _).alloc _).alloc _).trans HG1.out⟩
set_option maxRecDepth 100000 in
set_option maxHeartbeats 4000000 in
theorem listsR_any (l m : List Src) (vl vm : Value) (w : World) (h1 : SlIs tSrc (· < w.heap.size) w vl l) (h2 : SlIs tSrc (· < w.heap.size) w vm m) :
    Calls Tryd.prog 58 #[vl, vm] w fun e w' => e = .returned (.int .i64 (listC l m)) ∧ GrB w w' := by
  obtain ⟨ao, cp, b, o, rfl, q1, q2, ho⟩ := src_row h1
  obtain ⟨ao2, cp2, b2, o2, rfl, q3, q4, ho2⟩ := src_row h2
  unfold maxLen at q2 q4
  have HO := Lib.hid ho
  have HO2 := Lib.hid ho2
  clear h1 h2 ho ho2
  go_enter Tryd.func58, Tryd.ntmps58
  go_wp2
  go_loopg [5] l.length (fun gx i wr => ∃ k : Nat, k + gx = l.length ∧ i = .int .i64 k ∧ k ≤ m.length ∧ Hid (listC l m = listC (l.drop k) (m.drop k)) ∧ GrB w wr)
  case atStart => exact ⟨0, by omega, rfl, Nat.zero_le _, Lib.hid rfl, GrB.refl _⟩
  case round =>
    obtain ⟨k, hk, rfl, hkm, HT, hb⟩ := hrel
    have HB := Lib.hid hb
    by_cases hlt : k < l.length
    case neg =>
      have hkd : decide ((k : Int) < (l.length : Int)) = false := by simp; omega
      have HE := Lib.hid (listC_end (l := l) (m := m) (k := k) (by omega) (by omega) (.inl (by omega)))
      clear hb
      go_wp2_with (go_at_call 56
                   refine (numbers_any _ _ _).mono ?_
                   rintro e w1 ⟨rfl, rfl⟩)
      go_ret
      exact ⟨ret_int (by rw [HT.out, HE.out]), HB.out⟩
    by_cases hlm : k < m.length
    case neg =>
      have hk1 : (k : Int) < (l.length : Int) := by omega
      have hkd : decide ((k : Int) < (m.length : Int)) = false := by simp; omega
      have HE := Lib.hid (listC_end (l := l) (m := m) (k := k) (by omega) (by omega) (.inr (by omega)))
      clear hb
      go_wp2_with (go_at_call 56
                   refine (numbers_any _ _ _).mono ?_
                   rintro e w1 ⟨rfl, rfl⟩)
      go_ret
      exact ⟨ret_int (by rw [HT.out, HE.out]), HB.out⟩
    obtain ⟨rfl, -, hbk, hxo, c0, c1⟩ := HO.out wr (.of_below hb.below) k hlt
    obtain ⟨rfl, -, hbk2, hyo, d0, d1⟩ := HO2.out wr (.of_below hb.below) k hlm
    have k0 : (0 : Int) ≤ (k : Int) := by omega
    have k1 : (k : Int) < (l.length : Int) := by omega
    have k2 : (k : Int) < (m.length : Int) := by omega
    have HD := Lib.hid (listC_drop hlt hlm)
    generalize l[k] = x at HD c0 c1 hxo
    generalize m[k] = y at HD d0 d1 hyo
    obtain ⟨c, hc⟩ : ∃ c, srcC x y = c := ⟨_, rfl⟩
    have HS := Lib.hid (show ∀ n os, Calls Tryd.prog 69 #[.agg #[.string x.dev, .int .i64 x.seq], .agg #[.string y.dev, .int .i64 y.seq]] (grow (wr.drewN n) os) fun e w' => e = .returned (.int .i64 c) ∧ ∃ q os', w' = grow ((grow (wr.drewN n) os).drewN q) os' from fun n os => by
      rw [← hc]
      exact sourcesR_any x y _ hxo hyo)
    rw [hc] at HD
    have hb1 : b < wr.heap.size := Nat.lt_of_lt_of_le hbk hb.below.size
    have hb2 : b2 < wr.heap.size := Nat.lt_of_lt_of_le hbk2 hb.below.size
    have g0 := fun n os => cell_grown (w := wr) (a := ⟨b, o + k * 2, none⟩) hb1 c0 n os
    have g1 := fun n os => cell_grown (w := wr) (a := ⟨b, o + k * 2 + 1, none⟩) hb1 c1 n os
    have g2 := fun n os => cell_grown (w := wr) (a := ⟨b2, o2 + k * 2, none⟩) hb2 d0 n os
    have g3 := fun n os => cell_grown (w := wr) (a := ⟨b2, o2 + k * 2 + 1, none⟩) hb2 d1 n os
    clear hc hb hbk hbk2 c0 c1 d0 d1 hxo hyo
    go_upto_region 4 with (fail)
    refine wp_region_quiet_grown (by kernel_rfl) (by kernel_rfl) ?_
    (repeat (quiet_step ((go_at_call 69; with_reducible exact Calls.grown_of (HS.out _ _)))))
    refine wpQuiet_nil ?_
    intro _ hw'
    obtain ⟨⟨nq, osq⟩, hw''⟩ := hw'
    subst hw''
    have HGQ := Lib.hid (show GrB wr (grow (wr.drewN nq) osq) from ⟨nq, osq, rfl⟩)
    clear g0 g1 g2 g3 HS
    generalize grow (wr.drewN nq) osq = wq at HGQ ⊢
    by_cases hz : c = 0
    · have hz' : (c != 0) = false := by simp [hz]
      have HZ := Lib.hid hz
      clear hz
      go_wp2_with (fail)
      go_roundg (l.length - (k + 1))
      case measure => omega
      case rel => exact ⟨k + 1, by omega, by go_num, by omega, Lib.hid (by rw [HT.out, HD.out, if_pos HZ.out]), HB.out.trans HGQ.out⟩
    · have hz' : (c != 0) = true := by simp [hz]
      have HZ := Lib.hid hz
      clear hz
      go_wp2_with (fail)
      go_ret
      exact ⟨ret_int (by rw [HT.out, HD.out, if_neg HZ.out]), HB.out.trans HGQ.out⟩
theorem listsR_ex {l m : List Src} {vl vm : Value} {w : World} (h1 : SlIs tSrc (· < w.heap.size) w vl l) (h2 : SlIs tSrc (· < w.heap.size) w vm m) : ∀ n os,
    Calls Tryd.prog 58 #[vl, vm] (grow (w.drewN n) os) fun e w' => e = .returned (.int .i64 (listC l m)) ∧ ∃ q os', w' = grow ((grow (w.drewN n) os).drewN q) os' := fun n os =>
  listsR_any l m vl vm _ (SlIs.step h1 (GrB.below ⟨n, os, rfl⟩)) (SlIs.step h2 (GrB.below ⟨n, os, rfl⟩))
set_option maxRecDepth 100000 in
set_option maxHeartbeats 4000000 in
theorem compareR_any (x y : Pas) (vx vy : Value) (w : World) (h1 : SlIs tSrc (· < w.heap.size) w vx x.src) (h2 : SlIs tSrc (· < w.heap.size) w vy y.src) (hx : PasOk x) (hy : PasOk y) : Calls Tryd.prog 31 #[.agg (pCells x vx).toArray, .agg (pCells y vy).toArray] w fun e w' => e = .returned (.int .i64 (pasC x y)) ∧ GrB w w' := by
  obtain ⟨A, hA⟩ : ∃ A, (pCells x vx).toArray = A := ⟨_, rfl⟩
  obtain ⟨B, hB⟩ : ∃ A, (pCells y vy).toArray = A := ⟨_, rfl⟩
  rw [hA, hB]
  have HA := Lib.hid hA
  have HB' := Lib.hid hB
  obtain ⟨av, cv, _, _, rfl, -⟩ := id h1
  obtain ⟨au, cu, _, _, rfl, -⟩ := id h2
  have H1 := Lib.hid h1
  have H2 := Lib.hid h2
  have T1 := Lib.hid (texts_ex x.pt y.pt hx.pt hy.pt)
  have T2 := Lib.hid (texts_ex x.id y.id hx.id hy.id)
  have T3 := Lib.hid (texts_ex x.tag y.tag hx.tag hy.tag)
  have T4 := Lib.hid (texts_ex x.plt y.plt hx.plt hy.plt)
  clear hA hB h1 h2 hx hy
  go_enter Tryd.func31, Tryd.ntmps31
  go_upto_region 1 with (fail)
  have n0 := alloc2_0 w (.cells A 24) (.cells B 24)
  have n1 := alloc2_1 w (.cells A 24) (.cells B 24)
  have hb : GrB w ((w.alloc (.cells A 24)).alloc (.cells B 24)) := ((GrB.refl w).alloc _).alloc _
  obtain ⟨wa, hwa⟩ : ∃ wa, (w.alloc (.cells A 24)).alloc (.cells B 24) = wa := ⟨_, rfl⟩
  rw [hwa] at n0 n1 hb ⊢
  clear hwa
  have HB := Lib.hid hb
  have HCF := Lib.hid (listsR_ex (SlIs.step H1.out hb.below) (SlIs.step H2.out hb.below))
  clear hb
  have a0 := fun n os => grC n0 0 (v := .string x.id) (by rw [← HA.out]; rfl) n os
  have a1 := fun n os => grC n0 1 (v := .string x.pt) (by rw [← HA.out]; rfl) n os
  have a2 := fun n os => grC n0 2 (v := .int .i64 x.tm) (by rw [← HA.out]; rfl) n os
  have a3 := fun n os => grC n0 3 (v := .string x.tag) (by rw [← HA.out]; rfl) n os
  have a4 := fun n os => grC n0 4 (v := .string x.plt) (by rw [← HA.out]; rfl) n os
  have a5 := fun n os => grC n0 5 (v := .int .i64 x.cls) (by rw [← HA.out]; rfl) n os
  have a6 := fun n os => grC n0 6 (v := .int .i64 x.sco) (by rw [← HA.out]; rfl) n os
  have a7 := fun n os => grC n0 7 (v := .slice av x.src.length cv) (by rw [← HA.out]; rfl) n os
  have b0 := fun n os => grC n1 0 (v := .string y.id) (by rw [← HB'.out]; rfl) n os
  have b1 := fun n os => grC n1 1 (v := .string y.pt) (by rw [← HB'.out]; rfl) n os
  have b2 := fun n os => grC n1 2 (v := .int .i64 y.tm) (by rw [← HB'.out]; rfl) n os
  have b3 := fun n os => grC n1 3 (v := .string y.tag) (by rw [← HB'.out]; rfl) n os
  have b4 := fun n os => grC n1 4 (v := .string y.plt) (by rw [← HB'.out]; rfl) n os
  have b5 := fun n os => grC n1 5 (v := .int .i64 y.cls) (by rw [← HB'.out]; rfl) n os
  have b6 := fun n os => grC n1 6 (v := .int .i64 y.sco) (by rw [← HB'.out]; rfl) n os
  have b7 := fun n os => grC n1 7 (v := .slice au y.src.length cu) (by rw [← HB'.out]; rfl) n os
  clear n0 n1
  refine wp_region_grown_tail 40 (by kernel_rfl) (by kernel_rfl) ?_
  simp only [List.take_succ_cons, List.take_zero, List.drop_succ_cons, List.drop_zero]
  (repeat (quiet_step (first
                         | (go_at_call 56; with_reducible exact Calls.grown_of ((numbers_any _ _ _).mono (fun _ _ h => ⟨h.1, gr_same h.2⟩)))
                         | (go_at_call 58; with_reducible exact Calls.grown_of (HCF.out _ _))
                         | (go_at_call 57; first | with_reducible exact Calls.grown_of (T1.out _) | with_reducible exact Calls.grown_of (T2.out _) | with_reducible exact Calls.grown_of (T3.out _) | with_reducible exact Calls.grown_of (T4.out _)))))
  refine wpQuiet_nil ?_
  intro wq hq
  have HQ := Lib.hid (show GrB wa wq from by obtain ⟨⟨n, os⟩, rfl⟩ := hq; exact ⟨n, os, rfl⟩)
  clear hq a0 a1 a2 a3 a4 a5 a6 a7 b0 b1 b2 b3 b4 b5 b6 b7 HCF T1 T2 T3 T4
  have HR := Lib.hid (show pasC x y = orL [cmpI x.tm y.tm, cmpS x.pt y.pt, cmpS x.id y.id, cmpS x.tag y.tag, cmpS x.plt y.plt, cmpI x.cls y.cls, cmpI x.sco y.sco, listC x.src y.src] from rfl)
  generalize cmpI x.tm y.tm = z0 at *
  generalize cmpS x.pt y.pt = z1 at *
  generalize cmpS x.id y.id = z2 at *
  generalize cmpS x.tag y.tag = z3 at *
  generalize cmpS x.plt y.plt = z4 at *
  generalize cmpI x.cls y.cls = z5 at *
  generalize cmpI x.sco y.sco = z6 at *
  generalize listC x.src y.src = z7 at *
  go_wp2_with (fail)
  have HRW := Lib.hid (show Row 3 (wq.alloc (.cells #[.int .i64 z0, .int .i64 z1, .int .i64 z2, .int .i64 z3, .int .i64 z4, .int .i64 z5, .int .i64 z6, .int .i64 z7] 3)) wq.heap.size [z0, z1, z2, z3, z4, z5, z6, z7] from heap_alloc_new _ _)
  have HBQ := Lib.hid ((HB.out.trans HQ.out).alloc (.cells #[.int .i64 z0, .int .i64 z1, .int .i64 z2, .int .i64 z3, .int .i64 z4, .int .i64 z5, .int .i64 z6, .int .i64 z7] 3))
  generalize wq.alloc (.cells #[.int .i64 z0, .int .i64 z1, .int .i64 z2, .int .i64 z3, .int .i64 z4, .int .i64 z5, .int .i64 z6, .int .i64 z7] 3) = w5 at HRW HBQ ⊢
  generalize wq.heap.size = g5 at HRW ⊢
  obtain ⟨L, hL⟩ : ∃ L, [z0, z1, z2, z3, z4, z5, z6, z7] = L := ⟨_, rfl⟩
  have hL8 : L.length = 8 := by rw [← hL]; rfl
  rw [hL] at HRW HR
  have HL8 := Lib.hid hL8
  clear hL hL8
  go_loopg [6] 8 (fun gx i wr => ∃ k : Nat, k + gx = 8 ∧ i = .int .i64 k ∧ Hid (orL L = orL (L.drop k)) ∧ w5 = wr)
  case atStart => exact ⟨0, by omega, rfl, Lib.hid rfl, rfl⟩
  case round =>
    obtain ⟨k, hk, rfl, HE, rfl⟩ := hrel
    by_cases hlt : k < 8
    · have k0 : (0 : Int) ≤ (k : Int) := by omega
      have k1 : (k : Int) < 8 := by omega
      have hlt2 : k < L.length := by have := HL8.out; omega
      have c0 := HRW.out.cell hlt2
      have HD := Lib.hid (show orL (L.drop k) = if L[k] = 0 then orL (L.drop (k + 1)) else L[k] by rw [List.drop_eq_getElem_cons hlt2, orL])
      obtain ⟨z, hz⟩ : ∃ z, L[k] = z := ⟨_, rfl⟩
      rw [hz] at c0 HD
      clear hz hlt2
      by_cases hz : z = 0
      · subst hz
        go_wp2_with (fail)
        go_roundg (8 - (k + 1))
        case measure => omega
        case rel => exact ⟨k + 1, by omega, by go_num, Lib.hid (by rw [HE.out, HD.out]; simp), rfl⟩
      · have hz' : (z != 0) = true := by simp [hz]
        have HZ := Lib.hid hz
        clear hz
        go_wp2_with (fail)
        go_ret
        exact ⟨ret_int (HR.out.trans (HE.out.trans (HD.out.trans (if_neg HZ.out)))), HBQ.out⟩
    · have hkl : ¬ (k : Int) < 8 := by omega
      have HN := Lib.hid (show orL L = 0 by rw [HE.out, List.drop_eq_nil_of_le (by have := HL8.out; omega), orL])
      go_wp2_with (fail)
      go_ret
      exact ⟨ret_int (HR.out.trans HN.out), HBQ.out⟩
end Go.Proofs.YtbjhemglecllmaaDoor
/-
  slices.SortStableFunc in plain terms: what its exchanges, rotations and merges do to an array.
-/
namespace Go.Tw.Stab
open Go.Sort
variable {α : Type} [Inhabited α] {lt : α → α → Bool}
theorem eqg {d : Array α} {x y : Nat} (h : x = y) : d[x]! = d[y]! := by rw [h]
/-- n places from a on exchanged with those from b on -/
def Swapped (d : Array α) (a b n : Nat) (d' : Array α) : Prop :=
  ∀ t, d'[t]! = if a ≤ t ∧ t < a + n then d[b + (t - a)]! else if b ≤ t ∧ t < b + n then d[a + (t - b)]! else d[t]!
theorem swapped_zero (d : Array α) (a b : Nat) : Swapped d a b 0 d := fun t => by
  rw [if_neg (by omega), if_neg (by omega)]
theorem swapped_succ {d d1 : Array α} {a b i n : Nat} (h : Swapped d a b i d1) (hab : a + n ≤ b) (hi : i < n) (hb : b + n ≤ d.size) (hs : d1.size = d.size) :
    Swapped d a b (i + 1) (swp d1 (a + i) (b + i)) := fun t => by
  rw [swp_get d1 (by omega) (by omega) t, h t, h (a + i), h (b + i)]
  repeat' split
  all_goals first | omega | exact eqg (by omega)
/-- the parts [x, m) and [m, y) exchanged -/
def Rot (d : Array α) (x m y : Nat) (d' : Array α) : Prop :=
  ∀ t, d'[t]! = if x ≤ t ∧ t < x + (y - m) then d[m + (t - x)]! else if x + (y - m) ≤ t ∧ t < y then d[x + (t - (x + (y - m)))]! else d[t]!
theorem rot_self {d : Array α} {x m y : Nat} (h1 : x ≤ m) (h2 : m ≤ y) (h : x = m ∨ m = y) : Rot d x m y d := fun t => by
  repeat' split
  all_goals first | omega | exact eqg (by omega)
theorem rot_gt {d d1 d2 d' : Array α} {a m b i j : Nat} (h : ∀ d', Rot d1 (m - i) m (m + j) d' → Rot d a m b d') (hj : 0 < j) (hij : j < i) (hi : i ≤ m)
    (h1 : Swapped d1 (m - i) m j d2) (h2 : Rot d2 (m - (i - j)) m (m + j) d') : Rot d a m b d' := h _ fun t => by
  rw [h2 t, h1 (m + (t - (m - (i - j)))), h1 (m - (i - j) + (t - (m - (i - j) + (m + j - m)))), h1 t]
  repeat' split
  all_goals first | omega | exact eqg (by omega)
theorem rot_lt {d d1 d2 d' : Array α} {a m b i j : Nat} (h : ∀ d', Rot d1 (m - i) m (m + j) d' → Rot d a m b d') (hj : 0 < i) (hij : i < j) (hi : i ≤ m)
    (h1 : Swapped d1 (m - i) (m + j - i) i d2) (h2 : Rot d2 (m - i) m (m + (j - i)) d') : Rot d a m b d' := h _ fun t => by
  rw [h2 t, h1 (m + (t - (m - i))), h1 (m - i + (t - (m - i + (m + (j - i) - m)))), h1 t]
  repeat' split
  all_goals first | omega | exact eqg (by omega)
theorem rot_eq {d d1 d2 : Array α} {a m b i : Nat} (h : ∀ d', Rot d1 (m - i) m (m + i) d' → Rot d a m b d') (hi : i ≤ m)
    (h1 : Swapped d1 (m - i) m i d2) : Rot d a m b d2 := h _ fun t => by
  rw [h1 t]
  repeat' split
  all_goals first | omega | exact eqg (by omega)
theorem rot_up {d dk : Array α} {a k : Nat} (h : Rot d a (a + 1) (k + 1) dk) (hk : a ≤ k) (hs : dk.size = d.size) (hb : k + 1 < d.size) : Rot d a (a + 1) (k + 2) (swp dk k (k + 1)) := fun t => by
  rw [swp_get dk (by omega) (by omega) t, h t, h k, h (k + 1)]
  repeat' split
  all_goals first | omega | exact eqg (by omega)
theorem rot_down {d dk : Array α} {m k : Nat} (h : Rot d (k + 1) m (m + 1) dk) (hk : k < m) (hs : dk.size = d.size) (hb : m < d.size) : Rot d k m (m + 1) (swp dk (k + 1) k) := fun t => by
  rw [swp_get dk (by omega) (by omega) t, h t, h k, h (k + 1)]
  repeat' split
  all_goals first | omega | exact eqg (by omega)
theorem sorted_le (hS : SWO lt) {a b : Nat} {d : Array α} (h : SortedIn lt a b d) {i j : Nat} (h1 : a ≤ i) (h2 : i ≤ j) (h3 : j < b) : lt d[j]! d[i]! = false := by
  rcases Nat.lt_or_ge i j with h4 | h4
  · exact h i j h1 h4 h3
  · obtain rfl : i = j := by omega
    exact hS.irrefl _
theorem sorted_congr {a b : Nat} {d d' : Array α} (hs : SortedIn lt a b d) (h : ∀ i, a ≤ i → i < b → d'[i]! = d[i]!) : SortedIn lt a b d' := fun i j hi hij hj => by
  rw [h i hi (by omega), h j (by omega) hj]
  exact hs i j hi hij hj
theorem sorted_shift {a b x y : Nat} {d d' : Array α} (hs : SortedIn lt a b d) (hxy : y - x ≤ b - a) (h : ∀ i, x ≤ i → i < y → d'[i]! = d[a + (i - x)]!) : SortedIn lt x y d' := fun i j hi hij hj => by
  rw [h i hi (by omega), h j (by omega) hj]
  exact hs _ _ (by omega) (by omega) (by omega)
theorem sorted_sub {a b x y : Nat} {d : Array α} (hs : SortedIn lt a b d) (h1 : a ≤ x) (h2 : y ≤ b) : SortedIn lt x y d := fun i j hi hij hj => hs i j (by omega) hij (by omega)
/-- behind the rotation: four sorted parts, the left half not above the right one -/
theorem merge_ready (hS : SWO lt) {a s m e b mid : Nat} {d d1 : Array α} (hL : SortedIn lt a m d) (hR : SortedIn lt m b d) (h1 : a ≤ s) (h2 : s ≤ m) (h3 : m ≤ e) (h4 : e ≤ b) (he : s + e = mid + m)
    (c1 : a < s → e < b → lt d[e]! d[s - 1]! = false) (c2 : s < m → m < e → lt d[e - 1]! d[s]! = true) (hr : Rot d s m e d1) :
    SortedIn lt a s d1 ∧ SortedIn lt s mid d1 ∧ SortedIn lt mid e d1 ∧ SortedIn lt e b d1 ∧ ∀ i j, a ≤ i → i < mid → mid ≤ j → j < b → lt d1[j]! d1[i]! = false := by
  have g1 : ∀ i, i < s → d1[i]! = d[i]! := fun i hi => by rw [hr i, if_neg (by omega), if_neg (by omega)]
  have g2 : ∀ i, s ≤ i → i < mid → d1[i]! = d[m + (i - s)]! := fun i hi hj => by rw [hr i, if_pos (by omega)]
  have g3 : ∀ i, mid ≤ i → i < e → d1[i]! = d[s + (i - mid)]! := fun i hi hj => by rw [hr i, if_neg (by omega), if_pos (by omega)]; exact eqg (by omega)
  have g4 : ∀ i, e ≤ i → d1[i]! = d[i]! := fun i hi => by rw [hr i, if_neg (by omega), if_neg (by omega)]
  refine ⟨sorted_congr (sorted_sub hL (Nat.le_refl _) h2) fun i _ hi => g1 i hi, sorted_shift (sorted_sub hR (Nat.le_refl _) h4) (by omega) g2, sorted_shift (sorted_sub hL h1 (Nat.le_refl _)) (by omega) g3, sorted_congr (sorted_sub hR h3 (Nat.le_refl _)) fun i hi _ => g4 i hi, ?_⟩
  intro i j hi1 hi2 hj1 hj2
  rcases Nat.lt_or_ge i s with hi | hi
  · rw [g1 i hi]
    rcases Nat.lt_or_ge j e with hj | hj
    · rw [g3 j hj1 hj]
      exact sorted_le hS hL hi1 (by omega) (by omega)
    · rw [g4 j hj]
      exact hS.ntrans _ _ _ (sorted_le hS hR h3 hj hj2) (hS.ntrans _ _ _ (c1 (by omega) (by omega)) (sorted_le hS hL hi1 (by omega) (by omega)))
  · rw [g2 i hi hi2]
    rcases Nat.lt_or_ge j e with hj | hj
    · rw [g3 j hj1 hj]
      exact hS.ntrans _ _ _ (sorted_le hS hL h1 (by omega) (by omega)) (hS.ntrans _ _ _ (hS.asymmA (c2 (by omega) (by omega))) (sorted_le hS hR (by omega) (by omega) (by omega)))
    · rw [g4 j hj]
      exact sorted_le hS hR (by omega) (by omega) hj2
/-- both halves sorted: all is -/
theorem merge_done {a b mid : Nat} {d1 d2 d3 : Array α} (h0 : a ≤ mid) (h1 : mid ≤ b) (hb : b ≤ d1.size) (hc : ∀ i j, a ≤ i → i < mid → mid ≤ j → j < b → lt d1[j]! d1[i]! = false)
    (p2 : PermIn a mid d1 d2) (s2 : SortedIn lt a mid d2) (p3 : PermIn mid b d2 d3) (s3 : SortedIn lt mid b d3) : PermIn a b d1 d3 ∧ SortedIn lt a b d3 := by
  have e2 : ∀ i j, a ≤ i → i < mid → mid ≤ j → j < b → lt d2[j]! d2[i]! = false := fun i j hi1 hi2 hj1 hj2 => by
    rw [p2.2.1 j (Or.inr hj1)]
    exact permIn_all d1 d2 a mid (fun x => lt d1[j]! x = false) (by omega) p2 (fun i' h1 h2 => hc i' j h1 h2 hj1 hj2) i hi1 hi2
  have e3 : ∀ i j, a ≤ i → i < mid → mid ≤ j → j < b → lt d3[j]! d3[i]! = false := fun i j hi1 hi2 hj1 hj2 => by
    rw [p3.2.1 i (Or.inl hi2)]
    exact permIn_all d2 d3 mid b (fun x => lt x d2[i]! = false) (by rw [p2.1]; omega) p3 (fun j' h1 h2 => e2 i j' hi1 hi2 h1 h2) j hj1 hj2
  refine ⟨permIn_trans _ _ _ _ _ (permIn_mono d1 d2 a mid a b (Nat.le_refl _) h1 hb p2) (permIn_mono d2 d3 mid b a b h0 (Nat.le_refl _) (by rw [p2.1]; exact hb) p3), fun i j hi hij hj => ?_⟩
  rcases Nat.lt_or_ge j mid with h | h
  · rw [p3.2.1 j (Or.inl h), p3.2.1 i (Or.inl (by omega))]
    exact s2 i j hi hij h
  · rcases Nat.lt_or_ge i mid with h' | h'
    · exact e3 i j hi h' h hj
    · exact s3 i j h' hij hj
/-- one element on the left -/
theorem one_left (hS : SWO lt) {a i b : Nat} {d d1 : Array α} (hR : SortedIn lt (a + 1) b d) (h1 : a + 1 ≤ i) (h2 : i ≤ b)
    (c1 : a + 1 < i → lt d[i - 1]! d[a]! = true) (c2 : i < b → lt d[i]! d[a]! = false) (hr : Rot d a (a + 1) i d1) : SortedIn lt a b d1 := by
  have g1 : ∀ t, a ≤ t → t < i - 1 → d1[t]! = d[t + 1]! := fun t hi hj => by rw [hr t, if_pos (by omega)]; exact eqg (by omega)
  have g2 : d1[i - 1]! = d[a]! := by rw [hr (i - 1), if_neg (by omega), if_pos (by omega)]; exact eqg (by omega)
  have g3 : ∀ t, i ≤ t → d1[t]! = d[t]! := fun t hi => by rw [hr t, if_neg (by omega), if_neg (by omega)]
  intro p q hp hpq hq
  rcases Nat.lt_or_ge p (i - 1) with h | h
  · rw [g1 p hp h]
    rcases Nat.lt_or_ge q (i - 1) with k | k
    · rw [g1 q (by omega) k]
      exact hR _ _ (by omega) (by omega) (by omega)
    · rcases Nat.eq_or_lt_of_le k with k | k
      · rw [← k, g2]
        exact hS.ntrans _ _ _ (hS.asymmA (c1 (by omega))) (sorted_le hS hR (by omega) (by omega) (by omega))
      · rw [g3 q (by omega)]
        exact hR _ _ (by omega) (by omega) hq
  · rcases Nat.eq_or_lt_of_le h with h | h
    · rw [← h, g2, g3 q (by omega)]
      exact hS.ntrans _ _ _ (sorted_le hS hR (by omega) (show i ≤ q by omega) hq) (c2 (by omega))
    · rw [g3 p (by omega), g3 q (by omega)]
      exact hR _ _ (by omega) hpq hq
/-- one element on the right -/
theorem one_right (hS : SWO lt) {a i m : Nat} {d d1 : Array α} (hL : SortedIn lt a m d) (h1 : a ≤ i) (h2 : i ≤ m)
    (c1 : a < i → lt d[m]! d[i - 1]! = false) (c2 : i < m → lt d[m]! d[i]! = true) (hr : Rot d i m (m + 1) d1) : SortedIn lt a (m + 1) d1 := by
  have g1 : ∀ t, t < i → d1[t]! = d[t]! := fun t hi => by rw [hr t, if_neg (by omega), if_neg (by omega)]
  have g2 : d1[i]! = d[m]! := by rw [hr i, if_pos (by omega)]; exact eqg (by omega)
  have g3 : ∀ t, i < t → t < m + 1 → d1[t]! = d[t - 1]! := fun t hi hj => by rw [hr t, if_neg (by omega), if_pos (by omega)]; exact eqg (by omega)
  intro p q hp hpq hq
  rcases Nat.lt_trichotomy p i with h | h | h
  · rw [g1 p h]
    rcases Nat.lt_trichotomy q i with k | k | k
    · rw [g1 q k]
      exact hL _ _ hp hpq (by omega)
    · subst k
      rw [g2]
      exact hS.ntrans _ _ _ (c1 (by omega)) (sorted_le hS hL hp (by omega) (by omega))
    · rw [g3 q k hq]
      exact hL _ _ hp (by omega) (by omega)
  · subst h
    rw [g2, g3 q hpq hq]
    exact hS.ntrans _ _ _ (sorted_le hS hL h1 (show p ≤ q - 1 by omega) (by omega)) (hS.asymmA (c2 (by omega)))
  · rw [g3 p h (by omega), g3 q (by omega) hq]
    exact hL _ _ (by omega) (by omega) (by omega)
end Go.Tw.Stab
/-
  slices.SortStableFunc at structs of k cells: the walks of swapRange and rotate, from a world of the sort's to a world of the sort's.
-/
namespace Go.Proofs.YtbjhemglecllmaaDoor
open Go.RowKit Go.Lib Go.Sort Go.Tw.Stab
/-- what the walks ask of the program: the bodies, their types; the element's size a variable -/
structure StabL (P : Program) (k : Nat) : Prop where
  mixed : P.follows .mixedOrders = true
  fSR : P.funcs[107]? = some Tryd.f107
  fRo : P.funcs[97]? = some Tryd.f97
  fSM : P.funcs[84]? = some Tryd.f84
  fSt : P.funcs[72]? = some Tryd.f72
  fSS : P.funcs[47]? = some Tryd.f47
  eSR : ∀ args w, (callFunc 107 args).run P w = .ok (.enter 107 args) w
  eRo : ∀ args w, (callFunc 97 args).run P w = .ok (.enter 97 args) w
  eSM : ∀ args w, (callFunc 84 args).run P w = .ok (.enter 84 args) w
  eSt : ∀ args w, (callFunc 72 args).run P w = .ok (.enter 72 args) w
  eIn : ∀ args w, (callFunc 83 args).run P w = .ok (.enter 83 args) w
  ti : P.underlying 3 = some (TypeDesc.int IntKind.i64)
  ai : ∀ w, (isAgg 3).run P w = .ok false w
  zi : ∀ w, (Go.sizeOf 3).run P w = .ok 1 w
  vi : ∀ w, (zeroValue 3).run P w = .ok (Value.int IntKind.i64 0) w
  tu : P.underlying 97 = some (TypeDesc.int IntKind.u64)
  au : ∀ w, (isAgg 97).run P w = .ok false w
  zu : ∀ w, (Go.sizeOf 97).run P w = .ok 1 w
  tb : P.underlying 4 = some (TypeDesc.bool)
  ab : ∀ w, (isAgg 4).run P w = .ok false w
  zb : ∀ w, (Go.sizeOf 4).run P w = .ok 1 w
  vb : ∀ w, (zeroValue 4).run P w = .ok (Value.bool false) w
  ts : P.underlying 38 = some (TypeDesc.slice 24)
  asl : ∀ w, (isAgg 38).run P w = .ok false w
  zs : ∀ w, (Go.sizeOf 38).run P w = .ok 1 w
  vs : ∀ w, (zeroValue 38).run P w = .ok (Value.slice none 0 0) w
  af : ∀ w, (isAgg 50).run P w = .ok false w
  zf : ∀ w, (Go.sizeOf 50).run P w = .ok 1 w
  aE : ∀ w, (isAgg 24).run P w = .ok true w
  zE : ∀ w, (Go.sizeOf 24).run P w = .ok k w
section
variable {P : Program} {α : Type} [Inhabited α]
set_option maxHeartbeats 4000000 in
set_option maxRecDepth 1000000 in
theorem swapRange_any {k : Nat} (L : StabL P k) (enc : α → List Value) (g : Nat) (cb : Array Value) (blk off cap a b n : Nat) (d0 d : Array α) (w0 w : World)
    (R : RowK enc k w0 blk off d0) (hs : d0.size = d.size) (S : SWK enc k w0 blk off d w) (hab : a + n ≤ b) (hb : b + n ≤ d.size) (hsz : d.size < 4611686018427387904) :
    Calls P 107 #[.slice (some ⟨blk, off, none⟩) d.size cap, .int .i64 a, .int .i64 b, .int .i64 n, .func (.func g) #[] cb] w fun e w' =>
      e = .returned (.tuple #[]) ∧ ∃ d', PermIn a (b + n) d d' ∧ Swapped d a b n d' ∧ SWK enc k w0 blk off d' w' := by
  have mixed := L.mixed
  have ti := L.ti
  have ai := L.ai
  have zi := L.zi
  have vi := L.vi
  have tu := L.tu
  have au := L.au
  have zu := L.zu
  have tb := L.tb
  have ab := L.ab
  have zb := L.zb
  have vb := L.vb
  have ts := L.ts
  have asl := L.asl
  have zs := L.zs
  have vs := L.vs
  have af := L.af
  have zf := L.zf
  have aE := L.aE
  have zE := L.zE
  have FG := L.fSR
  have S0 : Aside (SWK enc k w0 blk off d w) := S
  clear S
  go_enter FG, Tryd.ntmps107
  go_wp2
  go_loopg [10] n (fun gx si wr => ∃ (i : Nat) (dk : Array α), si = .int .i64 i ∧ i + gx = n ∧ Aside (SWK enc k w0 blk off dk wr) ∧ Aside (PermIn a (b + n) d dk ∧ Swapped d a b i dk) ∧ dk.size = d.size)
  case atStart => exact ⟨0, d, rfl, by omega, S0, ⟨permIn_refl _ _ _, swapped_zero _ _ _⟩, rfl⟩
  case round =>
    clear S0
    obtain ⟨i, dk, rfl, hi, S1, HP, hds⟩ := hrel
    by_cases hlt : i < n
    · have hlt' : (i : Int) < (n : Int) := by omega
      go_wp2_with fail
      have ea : ((a : Int) + (i : Int)).toNat = a + i := by omega
      have pa : (0 : Int) ≤ (a : Int) + (i : Int) := by omega
      have ba : (a : Int) + (i : Int) < (d.size : Int) := by omega
      have ra : IntKind.i64.wrap ((a : Int) + (i : Int)) = (a : Int) + (i : Int) := by rw [IntKind.wrap_i64]; omega
      have ec : ((b : Int) + (i : Int)).toNat = b + i := by omega
      have pc : (0 : Int) ≤ (b : Int) + (i : Int) := by omega
      have bc : (b : Int) + (i : Int) < (d.size : Int) := by omega
      have rc : IntKind.i64.wrap ((b : Int) + (i : Int)) = (b : Int) + (i : Int) := by rw [IntKind.wrap_i64]; omega
      have S2 : Aside (SWK enc k w0 blk off (swp dk (a + i) (b + i)) ((wr.drew.setCells blk (off + (a + i) * k) (enc dk[b + i]!)).setCells blk (off + (b + i) * k) (enc dk[a + i]!))) := S1.out.swapped R (a + i) (b + i) (by omega) (by omega)
      have la := S1.out.ld1 R (by omega) P (a + i) (by omega)
      have lb := S1.out.ld1 R (by omega) P (b + i) (by omega)
      have sa := S1.out.st1 R (by omega) P (a + i) (by omega) dk[b + i]!
      have sb := S1.out.st2 R (by omega) P (a + i) (b + i) (by omega) (by omega) dk[b + i]! dk[a + i]!
      have na : (enc dk[a + i]!).length = k := R.hk _
      have nb : (enc dk[b + i]!).length = k := R.hk _
      generalize enc dk[a + i]! = cI at S2 la sb na
      generalize enc dk[b + i]! = cJ at S2 lb sa sb nb
      clear S1
      go_wp2_with fail
      go_big_region_o
      clear la lb sa sb ea pa ba ra ec pc bc rc na nb
      generalize (wr.drew.setCells blk (off + (a + i) * k) cJ).setCells blk (off + (b + i) * k) cI = w2 at S2 ⊢
      go_wp2
      go_roundg (n - (i + 1))
      case measure => omega
      case rel => exact ⟨i + 1, _, by go_num, by omega, S2, ⟨permIn_trans _ _ _ _ _ HP.out.1 (swp_permIn _ _ _ _ _ (by omega) (by omega) (by omega) (by omega) (by omega)), swapped_succ HP.out.2 hab hlt hb hds⟩, by rw [size_swp]; exact hds⟩
    · have hlt' : ¬ (i : Int) < (n : Int) := by omega
      obtain rfl : i = n := by omega
      go_wp2
      go_end0
      exact ⟨rfl, dk, HP.out.1, HP.out.2, S1.out⟩
end
end Go.Proofs.YtbjhemglecllmaaDoor
/-
  slices.SortStableFunc at structs of k cells: the walk of rotate.
-/
namespace Go.Proofs.YtbjhemglecllmaaDoor
open Go.RowKit Go.Lib Go.Sort Go.Tw.Stab
section
variable {P : Program} {α : Type} [Inhabited α]
set_option maxHeartbeats 4000000 in
set_option maxRecDepth 1000000 in
theorem rotate_any {k : Nat} (L : StabL P k) (enc : α → List Value) (g : Nat) (cb : Array Value) (blk off cap a m b : Nat) (d0 d : Array α) (w0 w : World)
    (R : RowK enc k w0 blk off d0) (hs : d0.size = d.size) (S : SWK enc k w0 blk off d w) (ham : a < m) (hmb : m < b) (hb : b ≤ d.size) (hsz : d.size < 4611686018427387904) :
    Calls P 97 #[.slice (some ⟨blk, off, none⟩) d.size cap, .int .i64 a, .int .i64 m, .int .i64 b, .func (.func g) #[] cb] w fun e w' =>
      e = .returned (.tuple #[]) ∧ ∃ d', PermIn a b d d' ∧ Rot d a m b d' ∧ SWK enc k w0 blk off d' w' := by
  have mixed := L.mixed
  have ti := L.ti
  have ai := L.ai
  have zi := L.zi
  have vi := L.vi
  have tu := L.tu
  have au := L.au
  have zu := L.zu
  have tb := L.tb
  have ab := L.ab
  have zb := L.zb
  have vb := L.vb
  have ts := L.ts
  have asl := L.asl
  have zs := L.zs
  have vs := L.vs
  have af := L.af
  have zf := L.zf
  have aE := L.aE
  have zE := L.zE
  have FG := L.fRo
  have e88 := L.eSR
  have S0 : Aside (SWK enc k w0 blk off d w) := S
  clear S
  go_enter FG, Tryd.ntmps97
  go_wp2
  go_loopg [10, 11] (b - a) (fun gx si sj wr => ∃ (i j : Nat) (dk : Array α), si = .int .i64 i ∧ sj = .int .i64 j ∧ 0 < i ∧ 0 < j ∧ a + i ≤ m ∧ m + j ≤ b ∧ i + j ≤ gx ∧ Aside (SWK enc k w0 blk off dk wr) ∧ Aside (PermIn a b d dk ∧ ∀ d', Rot dk (m - i) m (m + j) d' → Rot d a m b d') ∧ dk.size = d.size)
  case atStart => exact ⟨m - a, b - m, d, by go_num, by go_num, by omega, by omega, by omega, by omega, by omega, S0, ⟨permIn_refl _ _ _, fun d' h => by rwa [show m - (m - a) = a by omega, show m + (b - m) = b by omega] at h⟩, rfl⟩
  case round =>
    clear S0
    obtain ⟨i, j, dk, rfl, rfl, hi, hj, hia, hjb, hg, S1, HP, hds⟩ := hrel
    have emi : ((m - i : Nat) : Int) = (m : Int) - (i : Int) := by omega
    by_cases hij : i = j
    · subst hij
      have hne : ((i : Int) != (i : Int)) = false := by simp
      have hcall := swapRange_any L enc g cb blk off cap (m - i) m i d0 dk w0 wr R (by omega) S1.out (by omega) (by omega) (by omega)
      rw [emi, hds] at hcall
      clear S1
      go_wp2_with (go_at_fn 107; refine hcall.mono ?_; rintro e w1 ⟨rfl, d1, q1, q2, q3⟩)
      go_end0
      exact ⟨rfl, d1, permIn_trans _ _ _ _ _ HP.out.1 (permIn_mono _ _ _ _ _ _ (by omega) (by omega) (by omega) q1), rot_eq HP.out.2 (by omega) q2, q3⟩
    · have hne : ((i : Int) != (j : Int)) = true := by simp; omega
      by_cases hgt : j < i
      · have hgt' : (j : Int) < (i : Int) := by omega
        have hcall := swapRange_any L enc g cb blk off cap (m - i) m j d0 dk w0 wr R (by omega) S1.out (by omega) (by omega) (by omega)
        rw [emi, hds] at hcall
        clear S1
        go_wp2_with (go_at_fn 107; refine hcall.mono ?_; rintro e w1 ⟨rfl, d1, q1, q2, q3⟩)
        go_roundg (i - j + j)
        case measure => omega
        case rel => exact ⟨i - j, j, d1, by go_num, rfl, by omega, hj, by omega, hjb, by omega, q3, ⟨permIn_trans _ _ _ _ _ HP.out.1 (permIn_mono _ _ _ _ _ _ (by omega) (by omega) (by omega) q1), fun d' h => rot_gt HP.out.2 hj hgt (by omega) q2 h⟩, by rw [q1.1]; exact hds⟩
      · have hgt' : ¬ (j : Int) < (i : Int) := by omega
        have emj : ((m + j - i : Nat) : Int) = (m : Int) + (j : Int) - (i : Int) := by omega
        have hcall := swapRange_any L enc g cb blk off cap (m - i) (m + j - i) i d0 dk w0 wr R (by omega) S1.out (by omega) (by omega) (by omega)
        rw [emi, emj, hds] at hcall
        clear S1
        go_wp2_with (go_at_fn 107; refine hcall.mono ?_; rintro e w1 ⟨rfl, d1, q1, q2, q3⟩)
        go_roundg (i + (j - i))
        case measure => omega
        case rel => exact ⟨i, j - i, d1, rfl, by go_num, hi, by omega, hia, by omega, by omega, q3, ⟨permIn_trans _ _ _ _ _ HP.out.1 (permIn_mono _ _ _ _ _ _ (by omega) (by omega) (by omega) q1), fun d' h => rot_lt HP.out.2 hi (by omega) (by omega) q2 h⟩, by rw [q1.1]; exact hds⟩
end
end Go.Proofs.YtbjhemglecllmaaDoor
