/-
  Layer 16 (fuse): lists of sources in strict order: plain.
-/
import Derived.Test.YtelnnjofccldgaaGreatDoorFuU
import Derived.Test.YtelnnjofccldgaaGreatDoorIf
import Derived.Deep.Cut
import Derived.Test.YtelnnjofccldgaaGreatDoorHeld
namespace Go.Tw.Fu
open Go.RowKit Go.Tw Go.Tw.Ord Go.Tw.Ps
/-- each one before those that follow -/
abbrev SSr (S : List Src) : Prop := S.Pairwise fun x y => srcC x y < 0
theorem srcC_tr {a b c : Src} (h1 : srcC a b < 0) (h2 : srcC b c < 0) : srcC a c < 0 := by
  have t1 := srcC_cmp.trans a b c (by omega) (by omega)
  by_cases e : srcC a c = 0
  · rw [srcC_zero e] at h1
    have := srcC_cmp.anti b c
    omega
  · omega
theorem ssr_ins {S : List Src} {x : Src} {a : Nat} (hs : SSr S) (h1 : ∀ j (hj : j < S.length), a ≤ j → srcC x S[j] < 0) (h2 : ∀ j (hj : j < S.length), j < a → srcC S[j] x < 0) : SSr (S.take a ++ [x] ++ S.drop a) := by
  have hst : SSr (S.take a) := List.Pairwise.sublist (List.take_sublist _ _) hs
  have hsd : SSr (S.drop a) := List.Pairwise.sublist (List.drop_sublist _ _) hs
  have hs' := hs
  rw [← List.take_append_drop a S] at hs'
  have hm := (List.pairwise_append.1 hs').2.2
  unfold SSr
  rw [List.pairwise_append, List.pairwise_append]
  refine ⟨⟨hst, List.pairwise_singleton _ _, fun u hu v hv => ?_⟩, hsd, fun u hu v hv => ?_⟩
  · rw [List.mem_singleton] at hv
    subst hv
    obtain ⟨i, hi, rfl⟩ := List.getElem_of_mem hu
    rw [List.length_take] at hi
    rw [List.getElem_take]
    exact h2 i (by omega) (by omega)
  · rcases List.mem_append.1 hu with hu | hu
    · exact hm u hu v hv
    · rw [List.mem_singleton] at hu
      subst hu
      obtain ⟨i, hi, rfl⟩ := List.getElem_of_mem hv
      rw [List.getElem_drop]
      rw [List.length_drop] at hi
      exact h1 (a + i) (by omega) (by omega)
theorem mem_ins {S : List Src} {x y : Src} {a : Nat} : y ∈ S.take a ++ [x] ++ S.drop a ↔ y ∈ S ∨ y = x := by
  constructor
  · intro h
    rcases List.mem_append.1 h with h | h
    · rcases List.mem_append.1 h with h | h
      · exact .inl (List.mem_of_mem_take h)
      · exact .inr (List.mem_singleton.1 h)
    · exact .inl (List.mem_of_mem_drop h)
  · rintro (h | rfl)
    · rw [← List.take_append_drop a S] at h
      rcases List.mem_append.1 h with h | h
      · simp [h]
      · simp [h]
    · simp
theorem ssr_uniq : ∀ {a b : List Src}, SSr a → SSr b → (∀ x, x ∈ a ↔ x ∈ b) → a = b
  | [], [], _, _, _ => rfl
  | [], y :: b, _, _, h => by have := (h y).2 (by simp); cases this
  | x :: a, [], _, _, h => by have := (h x).1 (by simp); cases this
  | x :: a, y :: b, ha, hb, h => by
    obtain ⟨a1, a2⟩ := List.pairwise_cons.1 ha
    obtain ⟨b1, b2⟩ := List.pairwise_cons.1 hb
    have irr : ∀ z : Src, ¬ srcC z z < 0 := fun z => by have := srcC_self z; omega
    have e : x = y := by
      rcases List.mem_cons.1 ((h x).1 (by simp)) with e | e
      · exact e
      · rcases List.mem_cons.1 ((h y).2 (by simp)) with e' | e'
        · exact e'.symm
        · exact absurd (srcC_tr (a1 y e') (b1 x e)) (irr x)
    subst e
    congr 1
    refine ssr_uniq a2 b2 fun z => ⟨fun hz => ?_, fun hz => ?_⟩
    · rcases List.mem_cons.1 ((h z).1 (List.mem_cons_of_mem _ hz)) with e | e
      · subst e; exact absurd (a1 z hz) (irr z)
      · exact e
    · rcases List.mem_cons.1 ((h z).2 (List.mem_cons_of_mem _ hz)) with e | e
      · subst e; exact absurd (b1 z hz) (irr z)
      · exact e
end Go.Tw.Fu
namespace Go.Proofs.YtelnnjofccldgaaGreatDoor.Fu
open Go.RowKit Go.Tw Go.Tw.Ord Go.Tw.Ps Go.Tw.Fu Go.Sort
/-- what is left of a sorted list -/
theorem dd_spec {s : List Src} (hs : SrtS s) : ∀ j, j ≤ s.length → SSr (ddT s j) ∧ (∀ x, x ∈ ddT s j ↔ x ∈ s.take j) ∧ (∀ x ∈ ddT s j, ∀ _h : 0 < j, ∀ hj : j - 1 < s.length, srcC x s[j - 1] ≤ 0)
  | 0, _ => ⟨List.Pairwise.nil, fun x => by simp [ddT], fun x hx => by cases hx⟩
  | j + 1, hj => by
    obtain ⟨i1, i2, i3⟩ := dd_spec hs j (by omega)
    have hl : j < s.length := by omega
    have ht := List.take_succ_eq_append_getElem hl
    have hall : ∀ x ∈ s.take (j + 1), srcC x s[j] ≤ 0 := fun x hx => by
      obtain ⟨i, hi, rfl⟩ := List.getElem_of_mem hx
      rw [List.length_take] at hi
      rw [List.getElem_take]
      by_cases e : i = j
      · subst e; have := srcC_self s[i]; omega
      · exact hs i j hl (by omega)
    have hmem : ∀ L : List Src, (∀ x, x ∈ L ↔ x ∈ s.take (j + 1)) → ∀ x ∈ L, ∀ h : 0 < j + 1, ∀ hj : j + 1 - 1 < s.length, srcC x (s[j + 1 - 1]) ≤ 0 := fun L hL x hx _ _ => hall x ((hL x).1 hx)
    by_cases hq : 0 < j ∧ s[j - 1]? = some s[j]
    · have e : ddT s (j + 1) = ddT s j := by simp only [ddT, dif_pos hl]; rw [if_pos hq]
      rw [e]
      have hm : ∀ x, x ∈ ddT s j ↔ x ∈ s.take (j + 1) := fun x => by
        rw [i2, ht, List.mem_append, List.mem_singleton]
        refine ⟨.inl, fun h => h.elim id fun h => ?_⟩
        subst h
        have h1 : j - 1 < s.length := by omega
        rw [List.getElem?_eq_getElem h1] at hq
        rw [← Option.some.inj hq.2]
        exact List.mem_take_iff_getElem.2 ⟨j - 1, by omega, rfl⟩
      exact ⟨i1, hm, hmem _ hm⟩
    · have e : ddT s (j + 1) = ddT s j ++ [s[j]] := by simp only [ddT, dif_pos hl]; rw [if_neg hq]
      rw [e]
      have hm : ∀ x, x ∈ ddT s j ++ [s[j]] ↔ x ∈ s.take (j + 1) := fun x => by
        rw [ht, List.mem_append, List.mem_append, i2]
      refine ⟨List.pairwise_append.2 ⟨i1, List.pairwise_singleton _ _, fun u hu v hv => ?_⟩, hm, hmem _ hm⟩
      rw [List.mem_singleton] at hv
      subst hv
      have h1 := hall u ((hm u).1 (List.mem_append_left _ hu))
      by_cases e0 : srcC u s[j] = 0
      · exfalso
        have hj0 : 0 < j := by
          rcases Nat.eq_zero_or_pos j with h | h
          · subst h; simp [ddT] at hu
          · exact h
        have h2 := i3 u hu hj0 (by omega)
        have h3 := hs (j - 1) j hl (by omega)
        rw [srcC_zero e0] at h2
        have h4 := srcC_cmp.anti (s[j - 1]'(by omega)) s[j]
        refine hq ⟨hj0, ?_⟩
        rw [List.getElem?_eq_getElem (by omega)]
        exact congrArg some (srcC_zero (by omega))
      · omega
theorem UsedL.spec {l : List Pas} {m : List Src} (h : UsedL l m) : SSr m ∧ ∀ x, x ∈ m ↔ x ∈ l.flatMap Pas.src := by
  obtain ⟨s, hp, hs, rfl⟩ := h
  obtain ⟨h1, h2, -⟩ := dd_spec hs s.length (Nat.le_refl _)
  exact ⟨h1, fun x => by rw [h2, List.take_length]; exact hp.mem_iff⟩
end Go.Proofs.YtelnnjofccldgaaGreatDoor.Fu
/-
  Layer 16 (fuse): the reference's has and source.
-/
namespace Go.Tw.Fu
open Go.RowKit Go.Tw Go.Tw.Ord Go.Tw.Ps
theorem src_le {y x : Src} : srcC y x ≤ 0 ↔ Op.bytesLess y.dev.toList x.dev.toList = true ∨ (y.dev = x.dev ∧ y.seq ≤ x.seq) := by
  rw [less_str]
  unfold srcC
  simp only [orL]
  by_cases h1 : ltL (codes y.dev) (codes x.dev) = true
  · have : cmpS y.dev x.dev = -1 := by unfold cmpS; rw [if_pos h1]
    rw [this]; simp [h1]
  · by_cases h2 : y.dev = x.dev
    · have : cmpS y.dev x.dev = 0 := by unfold cmpS; rw [if_neg h1, if_pos h2]
      rw [this]
      have hc : cmpI y.seq x.seq ≤ 0 ↔ y.seq ≤ x.seq := by
        unfold cmpI
        split
        · constructor <;> intro <;> omega
        · split <;> constructor <;> intro <;> omega
      generalize cmpI y.seq x.seq = c at hc ⊢
      by_cases hc0 : c = 0 <;> simp [h2, hc0, ← hc] <;> simp_all
    · have : cmpS y.dev x.dev = 1 := by unfold cmpS; rw [if_neg h1, if_neg h2]
      rw [this]
      simp [h1, h2]
/-- the cells of a detection with its source alone -/
def sxA (x : Src) : Array Value := #[.string x.dev, .int .i64 x.seq, .int .i64 0, .string ByteArray.empty, .string ByteArray.empty, .int .i64 0, .int .i64 0, .int .i64 0, .string ByteArray.empty, .int .i64 0, .int .i64 0]
end Go.Tw.Fu
namespace Go.Proofs.YtelnnjofccldgaaGreatDoor.Fu
open Go.RowKit Go.Tw Go.Tw.Ord Go.Tw.Ps Go.Tw.Fu Go.Sort
set_option maxRecDepth 100000 in
set_option maxHeartbeats 4000000 in
theorem has_any (L : List Src) (v : Value) (x : Src) (w : World) (h : SlIs tSrc (· < w.heap.size) w v L) :
    Calls Tryz.prog 16 #[v, .agg (sxA x)] w fun e w' => e = .returned (.bool (decide (x ∈ L))) ∧ Below w.heap.size w w' := by
  obtain ⟨ao, cp, g, o, rfl, q1, q2, ho⟩ := src_row h
  unfold maxLen at q2
  have HO := Lib.hid ho
  clear h ho
  unfold sxA
  go_enter Tryz.func16, Tryz.ntmps16
  go_wp2_with (fail)
  have HBX := Lib.hid (heap_alloc_new w (.cells (sxA x) 63))
  have HB0 := Lib.hid (bl_alloc (Below.refl w.heap.size w) (.cells (sxA x) 63))
  have hsx : w.alloc (.cells (sxA x) 63) = w.alloc (.cells #[.string x.dev, .int .i64 x.seq, .int .i64 0, .string ByteArray.empty, .string ByteArray.empty, .int .i64 0, .int .i64 0, .int .i64 0, .string ByteArray.empty, .int .i64 0, .int .i64 0] 63) := rfl
  rw [← hsx]
  generalize w.alloc (.cells (sxA x) 63) = w1 at HBX HB0 ⊢
  clear hsx
  go_loopg [5] L.length (fun gx i wr => ∃ k : Nat, k + gx = L.length ∧ i = .int .i64 k ∧ Hid (∀ j (hj : j < L.length), j < k → L[j] ≠ x) ∧ Hid (Below w1.heap.size w1 wr))
  case atStart => exact ⟨0, by omega, rfl, Lib.hid (fun j hj h => by omega), Lib.hid (Below.refl _ _)⟩
  case round =>
    obtain ⟨wx, rfl⟩ : ∃ wx : World, wx = wr := ⟨_, rfl⟩
    obtain ⟨k, hk, rfl, HL, HG⟩ := hrel
    have hbx := (HG.out.block _ (lt_of_heap HBX.out)).trans HBX.out
    have b0 : wx.cell? ⟨w.heap.size, 0, none⟩ = some (.string x.dev) := cell_of_row _ _ 0 _ _ _ hbx
    have b1 : wx.cell? ⟨w.heap.size, 1, none⟩ = some (.int .i64 x.seq) := cell_of_row _ _ 1 _ _ _ hbx
    have HBW := Lib.hid (HB0.out.trans (HG.out.mono HB0.out.size))
    by_cases hlt : k < L.length
    · obtain ⟨rfl, -, -, -, x0, x1⟩ := HO.out wx (.of_below HBW.out) k hlt
      have HKM := Lib.hid (show L[k] ∈ L from List.getElem_mem hlt)
      have HKE := Lib.hid (show ∀ j (hj : j < L.length), j = k → L[j] = L[k] from fun j hj e => by subst e; rfl)
      generalize L[k] = y at *
      have rb0 := cell_regrown b0
      have rb1 := cell_regrown b1
      have rx0 := cell_regrown x0
      have rx1 := cell_regrown x1
      have k0 : (0 : Int) ≤ (k : Int) := by omega
      have k1 : (k : Int) < (L.length : Int) := by omega
      clear b0 b1 x0 x1 hbx
      by_cases t1 : y.dev = x.dev
      · have t1' : (y.dev.toList == x.dev.toList) = true := by rw [eq_str]; simpa using t1
        by_cases t2 : y.seq = x.seq
        · have t2' : (y.seq == x.seq) = true := by simpa using t2
          have HE := Lib.hid (show decide (x ∈ L) = true by
            have : y = x := by cases y; cases x; simp_all
            rw [← this]; simpa using HKM.out)
          clear t1 t2
          go_upto_region 4 with (fail)
          refine QW.region (by kernel_rfl) (by kernel_rfl) ?_
          (iterate 20 (refine QW.yes (by kernel_rfl) (fun K hK => ?_)
                       go_simp
                       (with_reducible refine hK _ ?_)
                       clear hK K))
          refine QW.nil ?_
          intro _ hw'
          obtain ⟨⟨dq, osq⟩, hw''⟩ := hw'
          subst hw''
          have HGQ := Lib.hid (bl_trans HG.out (below_regrown wx dq osq))
          generalize grow (redrawn wx dq) osq = wq at HGQ ⊢
          go_wp2
          go_ret
          exact ⟨ret_bool HE.out, (HB0.out.trans (HGQ.out.mono HB0.out.size))⟩
        · have t2' : (y.seq == x.seq) = false := by simpa using t2
          have HL2 := Lib.hid (show ∀ j (hj : j < L.length), j < k + 1 → L[j] ≠ x from fun j hj h => by
            by_cases e : j = k
            · rw [HKE.out j hj e]; intro e; rw [e] at t2; exact t2 rfl
            · exact HL.out j hj (by omega))
          clear t1 t2
          go_upto_region 4 with (fail)
          refine QW.region (by kernel_rfl) (by kernel_rfl) ?_
          (iterate 20 (refine QW.yes (by kernel_rfl) (fun K hK => ?_)
                       go_simp
                       (with_reducible refine hK _ ?_)
                       clear hK K))
          refine QW.nil ?_
          intro _ hw'
          obtain ⟨⟨dq, osq⟩, hw''⟩ := hw'
          subst hw''
          have HGQ := Lib.hid (bl_trans HG.out (below_regrown wx dq osq))
          generalize grow (redrawn wx dq) osq = wq at HGQ ⊢
          go_wp2
          go_roundg (L.length - (k + 1))
          case measure => omega
          case rel => exact ⟨k + 1, by omega, by go_num, HL2, HGQ⟩
      · have t1' : (y.dev.toList == x.dev.toList) = false := by rw [eq_str]; simpa using t1
        have HL2 := Lib.hid (show ∀ j (hj : j < L.length), j < k + 1 → L[j] ≠ x from fun j hj h => by
          by_cases e : j = k
          · rw [HKE.out j hj e]; intro e; rw [e] at t1; exact t1 rfl
          · exact HL.out j hj (by omega))
        clear t1
        go_upto_region 4 with (fail)
        refine QW.region (by kernel_rfl) (by kernel_rfl) ?_
        (iterate 10 (refine QW.yes (by kernel_rfl) (fun K hK => ?_)
                     go_simp
                     (with_reducible refine hK _ ?_)
                     clear hK K))
        (iterate 9 (refine QW.no (by kernel_rfl) ?_
                    (try simp only [Act.put])
                    (try simp only [List.setIfInBounds_toArray])
                    (repeat (first | simp only [List.set_cons_succ] | simp only [List.set_cons_zero]))))
        (iterate 1 (refine QW.yes (by kernel_rfl) (fun K hK => ?_)
                    go_simp
                    (with_reducible refine hK _ ?_)
                    clear hK K))
        refine QW.nil ?_
        intro _ hw'
        obtain ⟨⟨dq, osq⟩, hw''⟩ := hw'
        subst hw''
        have HGQ := Lib.hid (bl_trans HG.out (below_regrown wx dq osq))
        generalize grow (redrawn wx dq) osq = wq at HGQ ⊢
        go_wp2
        go_roundg (L.length - (k + 1))
        case measure => omega
        case rel => exact ⟨k + 1, by omega, by go_num, HL2, HGQ⟩
    · obtain rfl : k = L.length := by omega
      have hkl : ¬ (L.length : Int) < (L.length : Int) := by omega
      have HE := Lib.hid (show decide (x ∈ L) = false by
        simp only [decide_eq_false_iff_not]
        intro hm
        obtain ⟨j, hj, e⟩ := List.getElem_of_mem hm
        exact HL.out j hj hj e)
      clear b0 b1 hbx hlt
      go_wp2
      go_ret
      exact ⟨ret_bool HE.out, HBW.out⟩
end Go.Proofs.YtelnnjofccldgaaGreatDoor.Fu
/-
  Layer 16 (fuse): the reference's source: insertion.
-/
namespace Go.Proofs.YtelnnjofccldgaaGreatDoor.Fu
open Go.RowKit Go.Tw Go.Tw.Ord Go.Tw.Ps Go.Tw.Fu Go.Sort
set_option maxRecDepth 100000 in
set_option maxHeartbeats 8000000 in
theorem source_any (L : List Src) (v : Value) (x : Src) (w : World) (h : SlIs tSrc (· < w.heap.size) w v L) (hl : L.length ≤ 1000) (hs : SSr L) (hx : x ∉ L) (hok : SrcOk x) :
    Calls Tryz.prog 17 #[v, .agg (sxA x)] w fun e w' => (∃ v', e = .returned v' ∧ ∃ m, SlIs tSrc (· < w'.heap.size) w' v' m ∧ SSr m ∧ (∀ y, y ∈ m ↔ y ∈ L ∨ y = x) ∧ m.length = L.length + 1) ∧ Below w.heap.size w w' := by
  have HSL0 := Lib.hid h
  obtain ⟨ao, cp, g, o, rfl, q1, q2, ho⟩ := src_row h
  unfold maxLen at q2
  have HO := Lib.hid ho
  have HSL := HSL0
  have HSS := Lib.hid hs
  have HNM := Lib.hid hx
  have HOK := Lib.hid hok
  have HNE := Lib.hid (show ∀ j (hj : j < L.length), srcC L[j] x ≤ 0 → srcC L[j] x < 0 from fun j hj h => by
    by_cases e : srcC L[j] x = 0
    · exact absurd (srcC_zero e ▸ List.getElem_mem hj) hx
    · omega)
  clear h ho hs hx hok HSL0
  unfold sxA
  go_enter Tryz.func17, Tryz.ntmps17
  go_wp2_with (fail)
  have nb := heap_alloc_new (w.alloc (.cells (sxA x) 63)) (.cells #[.string x.dev, .int .i64 x.seq] 32)
  have HB2 := Lib.hid (bl_alloc (bl_alloc (Below.refl w.heap.size w) (.cells (sxA x) 63)) (.cells #[.string x.dev, .int .i64 x.seq] 32))
  have hsz : (w.alloc (.cells (sxA x) 63)).heap.size = w.heap.size + 1 := by simp
  rw [hsz] at nb
  unfold sxA at nb HB2
  generalize (w.alloc _).alloc _ = w2 at nb HB2 ⊢
  obtain ⟨gb, hgb⟩ : ∃ gb, w.heap.size + 1 = gb := ⟨_, rfl⟩
  rw [hgb] at nb ⊢
  have HBX := Lib.hid nb
  clear nb hsz hgb
  go_loopg [6] L.length (fun gx i wr => ∃ a : Nat, a + gx = L.length ∧ i = .int .i64 a ∧ Hid (∀ j (hj : j < L.length), j < a → srcC L[j] x < 0) ∧ Hid (Below w2.heap.size w2 wr))
  case atStart => exact ⟨0, by omega, rfl, Lib.hid (fun j hj h => by omega), Lib.hid (Below.refl _ _)⟩
  case round =>
    obtain ⟨wx, rfl⟩ : ∃ wx : World, wx = wr := ⟨_, rfl⟩
    obtain ⟨a, ha, rfl, HL, HG⟩ := hrel
    have hbx := (HG.out.block _ (lt_of_heap HBX.out)).trans HBX.out
    obtain ⟨b0, b1, -⟩ := blk2 hbx
    have rb0 := cell_regrown b0
    have rb1 := cell_regrown b1
    have HBW := Lib.hid (HB2.out.trans (HG.out.mono HB2.out.size))
    clear b0 b1 hbx
    by_cases hlt : a < L.length
    · obtain ⟨rfl, -, -, -, x0, x1⟩ := HO.out wx (.of_below HBW.out) a hlt
      have HLA := Lib.hid (HNE.out a hlt)
      have HKE := Lib.hid (show ∀ j (hj : j < L.length), j = a → L[j] = L[a] from fun j hj e => by subst e; rfl)
      generalize L[a] = y at *
      have rx0 := cell_regrown x0
      have rx1 := cell_regrown x1
      have a0 : (0 : Int) ≤ (a : Int) := by omega
      have a1 : (a : Int) < (L.length : Int) := by omega
      clear x0 x1
      obtain ⟨q, hq⟩ : ∃ q, Op.bytesLess y.dev.toList x.dev.toList = q := ⟨_, rfl⟩
      cases q with
      | true =>
        have HLT := Lib.hid (HLA.out (src_le.2 (.inl hq)))
        go_upto_region 3 with (fail)
        refine QW.region (by kernel_rfl) (by kernel_rfl) ?_
        (iterate 14 (refine QW.yes (by kernel_rfl) (fun K hK => ?_)
                     go_simp
                     (with_reducible refine hK _ ?_)
                     clear hK K))
        (iterate 18 (refine QW.no (by kernel_rfl) ?_
                     (try simp only [Act.put])
                     (try simp only [List.setIfInBounds_toArray])
                     (repeat (first | simp only [List.set_cons_succ] | simp only [List.set_cons_zero]))))
        (iterate 2 (refine QW.yes (by kernel_rfl) (fun K hK => ?_)
                    go_simp
                    (with_reducible refine hK _ ?_)
                    clear hK K))
        refine QW.nil ?_
        intro _ hw'
        obtain ⟨⟨dq, osq⟩, hw''⟩ := hw'
        subst hw''
        have HGQ := Lib.hid (bl_trans HG.out (below_regrown wx dq osq))
        generalize grow (redrawn wx dq) osq = wq at HGQ ⊢
        have HL2 := Lib.hid (show ∀ j (hj : j < L.length), j < a + 1 → srcC L[j] x < 0 from fun j hj h => by
          by_cases e : j = a
          · rw [HKE.out j hj e]
            exact HLT.out
          · exact HL.out j hj (by omega))
        clear rb0 rb1 rx0 rx1
        go_wp2
        go_roundg (L.length - (a + 1))
        case measure => omega
        case rel => exact ⟨a + 1, by omega, by go_num, HL2, HGQ⟩
      | false =>
        have HQ := Lib.hid hq
        by_cases t1 : y.dev = x.dev
        · have t1' : (y.dev.toList == x.dev.toList) = true := by rw [eq_str]; simpa using t1
          by_cases t2 : y.seq ≤ x.seq
          · have HLT := Lib.hid (HLA.out (src_le.2 (.inr ⟨t1, t2⟩)))
            clear t1
            go_upto_region 3 with (fail)
            refine QW.region (by kernel_rfl) (by kernel_rfl) ?_
            (iterate 34 (refine QW.yes (by kernel_rfl) (fun K hK => ?_)
                         go_simp
                         (with_reducible refine hK _ ?_)
                         clear hK K))
            refine QW.nil ?_
            intro _ hw'
            obtain ⟨⟨dq, osq⟩, hw''⟩ := hw'
            subst hw''
            have HGQ := Lib.hid (bl_trans HG.out (below_regrown wx dq osq))
            generalize grow (redrawn wx dq) osq = wq at HGQ ⊢
            have HL2 := Lib.hid (show ∀ j (hj : j < L.length), j < a + 1 → srcC L[j] x < 0 from fun j hj h => by
              by_cases e : j = a
              · rw [HKE.out j hj e]
                exact HLT.out
              · exact HL.out j hj (by omega))
            clear rb0 rb1 rx0 rx1
            go_wp2
            go_roundg (L.length - (a + 1))
            case measure => omega
            case rel => exact ⟨a + 1, by omega, by go_num, HL2, HGQ⟩
          · have HNL := Lib.hid (show srcC x y < 0 from by
              have h1 := srcC_cmp.anti x y
              have h2 : ¬ srcC y x ≤ 0 := fun h => by
                rcases src_le.1 h with h | h
                · rw [HQ.out] at h; exact absurd h (by decide)
                · exact t2 h.2
              omega)
            have t2' : decide (y.seq ≤ x.seq) = false := by simpa using t2
            have HSD := Lib.hid (show SSr (L.take a ++ [x] ++ L.drop a) from ssr_ins HSS.out (fun j hj h => by
              have h1 : srcC x y < 0 := HNL.out
              by_cases e : j = a
              · rw [HKE.out j hj e]; exact h1
              · have h2 := List.pairwise_iff_getElem.1 HSS.out a j hlt hj (by omega)
                rw [HKE.out a hlt rfl] at h2
                exact srcC_tr h1 h2) HL.out)
            clear t1 t2
            go_upto_region 3 with (fail)
            refine QW.region (by kernel_rfl) (by kernel_rfl) ?_
            (iterate 34 (refine QW.yes (by kernel_rfl) (fun K hK => ?_)
                         go_simp
                         (with_reducible refine hK _ ?_)
                         clear hK K))
            refine QW.nil ?_
            intro _ hw'
            obtain ⟨⟨dq, osq⟩, hw''⟩ := hw'
            subst hw''
            have HGQ := Lib.hid (bl_trans HG.out (below_regrown wx dq osq))
            generalize grow (redrawn wx dq) osq = wq at HGQ ⊢
            clear rb0 rb1 rx0 rx1
            generalize (some (⟨g, o, none⟩ : Addr)) = ao at HSL ⊢
            have HWY := Lib.hid (show Below w.heap.size w wq from HB2.out.trans (HGQ.out.mono HB2.out.size))
            have HKY := Lib.hid (show SlIs tSrc (· < wq.heap.size) wq (.slice ao L.length cp) L from HSL.out.step HWY.out)
            have hXB := (HGQ.out.block _ (lt_of_heap HBX.out)).trans HBX.out
            have HXD := Lib.hid (show ∀ w', Below wq.heap.size wq w' → w'.cell? ⟨gb, 0, none⟩ = some (.string x.dev) ∧ w'.cell? ⟨gb, 1, none⟩ = some (.int .i64 x.seq) from fun w' hw' => by
              obtain ⟨z0, z1, -⟩ := blk2 ((hw'.block _ (Nat.lt_of_lt_of_le (lt_of_heap HBX.out) HGQ.out.size)).trans hXB)
              exact ⟨z0, z1⟩)
            have o0 : OwnSl tSrc 32 wq.heap.size (wq.alloc (.cells #[] 32)) (.slice (some ⟨wq.heap.size, 0, none⟩) 0 0) [] := OwnSl.lit (css := []) rfl trivial (Nat.le_refl _) (by decide)
            have HO0 := Lib.hid o0
            have HA0 := Lib.hid (bl_alloc (Below.refl wq.heap.size wq) (.cells #[] 32))
            have hb1 : (([] : List Src).length + (L.take a).length) * 24 ≤ 140737488355328 := by simp; omega
            have hb2 : ([] : List Src).length + (L.take a).length ≤ maxLen := by unfold maxLen; simp; omega
            have hb3 : (([] ++ L.take a : List Src).length + 1) * 24 ≤ 140737488355328 := by simp; omega
            have hb4 : ([] ++ L.take a : List Src).length + 1 ≤ maxLen := by unfold maxLen; simp; omega
            have hb5 : ((([] ++ L.take a) ++ [x] : List Src).length + (L.drop a).length) * 24 ≤ 140737488355328 := by simp; omega
            have hb6 : (([] ++ L.take a) ++ [x] : List Src).length + (L.drop a).length ≤ maxLen := by unfold maxLen; simp; omega
            have HTK := Lib.hid (show SlIs tSrc (· < wq.heap.size) wq (.slice ao a cp) (L.take a) from HKY.out.take (by omega))
            have hdr := SlIs.drop (t := a) (k := a * 2) HKY.out (by omega) rfl
            rw [if_neg (show ¬ cp = a by omega)] at hdr
            have HDR := Lib.hid hdr
            have j0 : (0 : Int) ≤ (a : Int) := by omega
            have j1 : (a : Int) ≤ (L.length : Int) := by omega
            clear o0 hXB hdr
            go_wp2_with (first
              | (at_builtin
                 refine wpList_append_old (.tmp 52) (.tmp 55) rfl 27 rfl slSrcF rfl HO0.out rfl (HTK.out.keep (fun _ h => h) (.of_below HA0.out)) hb1 hb2 HA0.out.size ?_
                 intro v5 w5 ho5 hg5 hb5'
                 have HO5 := Lib.hid ho5
                 have HB5 := Lib.hid (HA0.out.trans hb5')
                 have hz5 := HB5.out.size
                 obtain ⟨x0, x1⟩ := HXD.out w5 HB5.out
                 clear ho5 hg5 hb5')
              | (at_builtin
                 refine wpList_append_one (.tmp 57) (.tmp 59) rfl 27 rfl slSrcF rfl HO5.out rfl (S := (· < wq.heap.size)) (y := x) (tSrc_mk HOK.out) (fun k hk => ⟨Nat.lt_of_lt_of_le hk hz5, fun e => Nat.lt_irrefl _ (Nat.lt_of_lt_of_le hk (HO5.out.own_lt k e.symm).1)⟩) hb3 hb4 hz5 ?_
                 intro v6 w6 ho6 hg6 hb6'
                 have HO6 := Lib.hid ho6
                 have HB6 := Lib.hid (HB5.out.trans hb6')
                 have hz6 := HB6.out.size
                 clear ho6 hg6 hb6' x0 x1)
              | (at_builtin
                 refine wpList_append_old (.tmp 61) (.tmp 64) rfl 27 rfl slSrcF rfl HO6.out rfl (HDR.out.keep (fun _ h => h) (.of_below HB6.out)) hb5 hb6 hz6 ?_
                 intro v7 w7 ho7 hg7 hb7'
                 have HO7 := Lib.hid (show OwnSl tSrc 32 wq.heap.size w7 v7 (L.take a ++ [x] ++ L.drop a) from by
                   have := ho7
                   simpa using this)
                 have HB7 := Lib.hid (HB6.out.trans hb7')
                 clear ho7 hg7 hb7'))
            all_goals
              go_ret
              exact ⟨⟨_, rfl, _, HO7.out.sl, HSD.out, fun _ => mem_ins, by simp; omega⟩, HWY.out.trans (HB7.out.mono HWY.out.size)⟩
        · have t1' : (y.dev.toList == x.dev.toList) = false := by rw [eq_str]; simpa using t1
          have HNL := Lib.hid (show srcC x y < 0 from by
            have h1 := srcC_cmp.anti x y
            have h2 : ¬ srcC y x ≤ 0 := fun h => by
              rcases src_le.1 h with h | h
              · rw [HQ.out] at h; exact absurd h (by decide)
              · exact t1 h.1
            omega)
          have HSD := Lib.hid (show SSr (L.take a ++ [x] ++ L.drop a) from ssr_ins HSS.out (fun j hj h => by
            have h1 : srcC x y < 0 := HNL.out
            by_cases e : j = a
            · rw [HKE.out j hj e]; exact h1
            · have h2 := List.pairwise_iff_getElem.1 HSS.out a j hlt hj (by omega)
              rw [HKE.out a hlt rfl] at h2
              exact srcC_tr h1 h2) HL.out)
          clear t1
          go_upto_region 3 with (fail)
          refine QW.region (by kernel_rfl) (by kernel_rfl) ?_
          (iterate 23 (refine QW.yes (by kernel_rfl) (fun K hK => ?_)
                       go_simp
                       (with_reducible refine hK _ ?_)
                       clear hK K))
          (iterate 8 (refine QW.no (by kernel_rfl) ?_
                      (try simp only [Act.put])
                      (try simp only [List.setIfInBounds_toArray])
                      (repeat (first | simp only [List.set_cons_succ] | simp only [List.set_cons_zero]))))
          (iterate 3 (refine QW.yes (by kernel_rfl) (fun K hK => ?_)
                      go_simp
                      (with_reducible refine hK _ ?_)
                      clear hK K))
          refine QW.nil ?_
          intro _ hw'
          obtain ⟨⟨dq, osq⟩, hw''⟩ := hw'
          subst hw''
          have HGQ := Lib.hid (bl_trans HG.out (below_regrown wx dq osq))
          generalize grow (redrawn wx dq) osq = wq at HGQ ⊢
          clear rb0 rb1 rx0 rx1
          generalize (some (⟨g, o, none⟩ : Addr)) = ao at HSL ⊢
          have HWY := Lib.hid (show Below w.heap.size w wq from HB2.out.trans (HGQ.out.mono HB2.out.size))
          have HKY := Lib.hid (show SlIs tSrc (· < wq.heap.size) wq (.slice ao L.length cp) L from HSL.out.step HWY.out)
          have hXB := (HGQ.out.block _ (lt_of_heap HBX.out)).trans HBX.out
          have HXD := Lib.hid (show ∀ w', Below wq.heap.size wq w' → w'.cell? ⟨gb, 0, none⟩ = some (.string x.dev) ∧ w'.cell? ⟨gb, 1, none⟩ = some (.int .i64 x.seq) from fun w' hw' => by
            obtain ⟨z0, z1, -⟩ := blk2 ((hw'.block _ (Nat.lt_of_lt_of_le (lt_of_heap HBX.out) HGQ.out.size)).trans hXB)
            exact ⟨z0, z1⟩)
          have o0 : OwnSl tSrc 32 wq.heap.size (wq.alloc (.cells #[] 32)) (.slice (some ⟨wq.heap.size, 0, none⟩) 0 0) [] := OwnSl.lit (css := []) rfl trivial (Nat.le_refl _) (by decide)
          have HO0 := Lib.hid o0
          have HA0 := Lib.hid (bl_alloc (Below.refl wq.heap.size wq) (.cells #[] 32))
          have hb1 : (([] : List Src).length + (L.take a).length) * 24 ≤ 140737488355328 := by simp; omega
          have hb2 : ([] : List Src).length + (L.take a).length ≤ maxLen := by unfold maxLen; simp; omega
          have hb3 : (([] ++ L.take a : List Src).length + 1) * 24 ≤ 140737488355328 := by simp; omega
          have hb4 : ([] ++ L.take a : List Src).length + 1 ≤ maxLen := by unfold maxLen; simp; omega
          have hb5 : ((([] ++ L.take a) ++ [x] : List Src).length + (L.drop a).length) * 24 ≤ 140737488355328 := by simp; omega
          have hb6 : (([] ++ L.take a) ++ [x] : List Src).length + (L.drop a).length ≤ maxLen := by unfold maxLen; simp; omega
          have HTK := Lib.hid (show SlIs tSrc (· < wq.heap.size) wq (.slice ao a cp) (L.take a) from HKY.out.take (by omega))
          have hdr := SlIs.drop (t := a) (k := a * 2) HKY.out (by omega) rfl
          rw [if_neg (show ¬ cp = a by omega)] at hdr
          have HDR := Lib.hid hdr
          have j0 : (0 : Int) ≤ (a : Int) := by omega
          have j1 : (a : Int) ≤ (L.length : Int) := by omega
          clear o0 hXB hdr
          go_wp2_with (first
            | (at_builtin
               refine wpList_append_old (.tmp 52) (.tmp 55) rfl 27 rfl slSrcF rfl HO0.out rfl (HTK.out.keep (fun _ h => h) (.of_below HA0.out)) hb1 hb2 HA0.out.size ?_
               intro v5 w5 ho5 hg5 hb5'
               have HO5 := Lib.hid ho5
               have HB5 := Lib.hid (HA0.out.trans hb5')
               have hz5 := HB5.out.size
               obtain ⟨x0, x1⟩ := HXD.out w5 HB5.out
               clear ho5 hg5 hb5')
            | (at_builtin
               refine wpList_append_one (.tmp 57) (.tmp 59) rfl 27 rfl slSrcF rfl HO5.out rfl (S := (· < wq.heap.size)) (y := x) (tSrc_mk HOK.out) (fun k hk => ⟨Nat.lt_of_lt_of_le hk hz5, fun e => Nat.lt_irrefl _ (Nat.lt_of_lt_of_le hk (HO5.out.own_lt k e.symm).1)⟩) hb3 hb4 hz5 ?_
               intro v6 w6 ho6 hg6 hb6'
               have HO6 := Lib.hid ho6
               have HB6 := Lib.hid (HB5.out.trans hb6')
               have hz6 := HB6.out.size
               clear ho6 hg6 hb6' x0 x1)
            | (at_builtin
               refine wpList_append_old (.tmp 61) (.tmp 64) rfl 27 rfl slSrcF rfl HO6.out rfl (HDR.out.keep (fun _ h => h) (.of_below HB6.out)) hb5 hb6 hz6 ?_
               intro v7 w7 ho7 hg7 hb7'
               have HO7 := Lib.hid (show OwnSl tSrc 32 wq.heap.size w7 v7 (L.take a ++ [x] ++ L.drop a) from by
                 have := ho7
                 simpa using this)
               have HB7 := Lib.hid (HB6.out.trans hb7')
               clear ho7 hg7 hb7'))
          all_goals
            go_ret
            exact ⟨⟨_, rfl, _, HO7.out.sl, HSD.out, fun _ => mem_ins, by simp; omega⟩, HWY.out.trans (HB7.out.mono HWY.out.size)⟩
    · have g0 : decide ((a : Int) < (L.length : Int)) = false := by simp; omega
      have g1 : decide (a < L.length) = false := by simp; omega
      have HSD := Lib.hid (show SSr (L.take a ++ [x] ++ L.drop a) from ssr_ins HSS.out (fun j hj h => by omega) HL.out)
      have hal : a ≤ L.length := by omega
      clear hlt ha
      go_upto_region 3 with (fail)
      refine QW.region (by kernel_rfl) (by kernel_rfl) ?_
      (iterate 5 (refine QW.yes (by kernel_rfl) (fun K hK => ?_)
                  go_simp
                  (with_reducible refine hK _ ?_)
                  clear hK K))
      (iterate 28 (refine QW.no (by kernel_rfl) ?_
                   (try simp only [Act.put])
                   (try simp only [List.setIfInBounds_toArray])
                   (repeat (first | simp only [List.set_cons_succ] | simp only [List.set_cons_zero]))))
      (iterate 1 (refine QW.yes (by kernel_rfl) (fun K hK => ?_)
                  go_simp
                  (with_reducible refine hK _ ?_)
                  clear hK K))
      refine QW.nil ?_
      intro _ hw'
      obtain ⟨⟨dq, osq⟩, hw''⟩ := hw'
      subst hw''
      have HGQ := Lib.hid (bl_trans HG.out (below_regrown wx dq osq))
      generalize grow (redrawn wx dq) osq = wq at HGQ ⊢
      clear rb0 rb1 g0 g1
      have HWY := Lib.hid (show Below w.heap.size w wq from HB2.out.trans (HGQ.out.mono HB2.out.size))
      have HKY := Lib.hid (show SlIs tSrc (· < wq.heap.size) wq (.slice ao L.length cp) L from HSL.out.step HWY.out)
      have hXB := (HGQ.out.block _ (lt_of_heap HBX.out)).trans HBX.out
      have HXD := Lib.hid (show ∀ w', Below wq.heap.size wq w' → w'.cell? ⟨gb, 0, none⟩ = some (.string x.dev) ∧ w'.cell? ⟨gb, 1, none⟩ = some (.int .i64 x.seq) from fun w' hw' => by
        obtain ⟨z0, z1, -⟩ := blk2 ((hw'.block _ (Nat.lt_of_lt_of_le (lt_of_heap HBX.out) HGQ.out.size)).trans hXB)
        exact ⟨z0, z1⟩)
      have o0 : OwnSl tSrc 32 wq.heap.size (wq.alloc (.cells #[] 32)) (.slice (some ⟨wq.heap.size, 0, none⟩) 0 0) [] := OwnSl.lit (css := []) rfl trivial (Nat.le_refl _) (by decide)
      have HO0 := Lib.hid o0
      have HA0 := Lib.hid (bl_alloc (Below.refl wq.heap.size wq) (.cells #[] 32))
      have hb1 : (([] : List Src).length + (L.take a).length) * 24 ≤ 140737488355328 := by simp; omega
      have hb2 : ([] : List Src).length + (L.take a).length ≤ maxLen := by unfold maxLen; simp; omega
      have hb3 : (([] ++ L.take a : List Src).length + 1) * 24 ≤ 140737488355328 := by simp; omega
      have hb4 : ([] ++ L.take a : List Src).length + 1 ≤ maxLen := by unfold maxLen; simp; omega
      have hb5 : ((([] ++ L.take a) ++ [x] : List Src).length + (L.drop a).length) * 24 ≤ 140737488355328 := by simp; omega
      have hb6 : (([] ++ L.take a) ++ [x] : List Src).length + (L.drop a).length ≤ maxLen := by unfold maxLen; simp; omega
      have HTK := Lib.hid (show SlIs tSrc (· < wq.heap.size) wq (.slice ao a cp) (L.take a) from HKY.out.take (by omega))
      have hdr := SlIs.drop (t := a) (k := a * 2) HKY.out (by omega) rfl
      skip
      have HDR := Lib.hid hdr
      have j0 : (0 : Int) ≤ (a : Int) := by omega
      have j1 : (a : Int) ≤ (L.length : Int) := by omega
      clear o0 hXB hdr
      go_wp2_with (first
        | (at_builtin
           refine wpList_append_old (.tmp 52) (.tmp 55) rfl 27 rfl slSrcF rfl HO0.out rfl (HTK.out.keep (fun _ h => h) (.of_below HA0.out)) hb1 hb2 HA0.out.size ?_
           intro v5 w5 ho5 hg5 hb5'
           have HO5 := Lib.hid ho5
           have HB5 := Lib.hid (HA0.out.trans hb5')
           have hz5 := HB5.out.size
           obtain ⟨x0, x1⟩ := HXD.out w5 HB5.out
           clear ho5 hg5 hb5')
        | (at_builtin
           refine wpList_append_one (.tmp 57) (.tmp 59) rfl 27 rfl slSrcF rfl HO5.out rfl (S := (· < wq.heap.size)) (y := x) (tSrc_mk HOK.out) (fun k hk => ⟨Nat.lt_of_lt_of_le hk hz5, fun e => Nat.lt_irrefl _ (Nat.lt_of_lt_of_le hk (HO5.out.own_lt k e.symm).1)⟩) hb3 hb4 hz5 ?_
           intro v6 w6 ho6 hg6 hb6'
           have HO6 := Lib.hid ho6
           have HB6 := Lib.hid (HB5.out.trans hb6')
           have hz6 := HB6.out.size
           clear ho6 hg6 hb6' x0 x1)
        | (at_builtin
           refine wpList_append_old (.tmp 61) (.tmp 64) rfl 27 rfl slSrcF rfl HO6.out rfl (HDR.out.keep (fun _ h => h) (.of_below HB6.out)) hb5 hb6 hz6 ?_
           intro v7 w7 ho7 hg7 hb7'
           have HO7 := Lib.hid (show OwnSl tSrc 32 wq.heap.size w7 v7 (L.take a ++ [x] ++ L.drop a) from by
             have := ho7
             simpa using this)
           have HB7 := Lib.hid (HB6.out.trans hb7')
           clear ho7 hg7 hb7'))
      all_goals
        go_ret
        exact ⟨⟨_, rfl, _, HO7.out.sl, HSD.out, fun _ => mem_ins, by simp; omega⟩, HWY.out.trans (HB7.out.mono HWY.out.size)⟩
end Go.Proofs.YtelnnjofccldgaaGreatDoor.Fu
/-
  Layer 16 (fuse): the reference's Used.
-/
namespace Go.Proofs.YtelnnjofccldgaaGreatDoor.Fu
open Go.RowKit Go.Tw Go.Tw.Ord Go.Tw.Ps Go.Tw.Fu Go.Sort
/-- the sources of the first k passages -/
def InU (l : List Pas) (k : Nat) (y : Src) : Prop := y ∈ (l.take k).flatMap Pas.src
/-- what the reference has gathered -/
structure Gat (w : World) (v : Value) (m : List Src) (P : Src → Prop) (n : Nat) : Prop where
  sl : SlIs tSrc (· < w.heap.size) w v m
  so : SSr m
  me : ∀ y, y ∈ m ↔ P y
  ln : m.length ≤ n
theorem Gat.below {w w' : World} {v : Value} {m : List Src} {P : Src → Prop} {n : Nat} (h : Gat w v m P n) (hb : Below w.heap.size w w') : Gat w' v m P n := ⟨h.sl.step hb, h.so, h.me, h.ln⟩
theorem Gat.cast {w : World} {v : Value} {m : List Src} {P P' : Src → Prop} {n n' : Nat} (h : Gat w v m P n) (hp : ∀ y, P y ↔ P' y) (hn : n ≤ n') : Gat w v m P' n' := ⟨h.sl, h.so, fun y => (h.me y).trans (hp y), Nat.le_trans h.ln hn⟩
theorem lt_cell {w : World} {b o : Nat} {v : Value} (h : w.cell? ⟨b, o, none⟩ = some v) : b < w.heap.size := by
  by_cases hb : b < w.heap.size
  · exact hb
  · exfalso
    have e : w.heap[b]? = none := Array.getElem?_eq_none (by omega)
    simp [World.cell?, e] at h
theorem load_sx {w : World} {b : Nat} {t : TypeId} {x : Src} (P : Program) (h : w.heap[b]? = some (.cells (sxA x) t (0, 0))) : Sem.run P (loadCellsFrom ⟨b, 0, none⟩ 0 11 #[]) w = .ok (sxA x) w :=
  Go.Proofs.run_loadCellsFrom_list P w ⟨b, 0, none⟩ (sxA x).toList 11 rfl fun j u hu => by
    rw [Addr.add_lit, Nat.zero_add, cell_of_row _ _ _ _ _ _ h]
    simpa using hu
set_option maxRecDepth 100000 in
set_option maxHeartbeats 8000000 in
theorem usedR_any (l : List Pas) (e : TypeId) (pv : Value) (ra : Option Addr) (rn rc : Nat) (c m : Int) (w : World) (h : SlIs (tPas e) (· < w.heap.size) w pv l) (hl : l.length ≤ 30) (hs : ∀ x ∈ l, x.src.length ≤ 20) :
    Calls Tryz.prog 6 #[.agg #[pv, .slice ra rn rc, .int .i64 c, .int .i64 m]] w fun e w' => (∃ v', e = .returned v' ∧ ∃ s, Gat w' v' s (InU l l.length) 600) ∧ Below w.heap.size w w' := by
  obtain ⟨ao, cp, g, o, rfl, q1, q2, ho⟩ := pas_row h
  unfold maxLen at q2
  have HO := Lib.hid ho
  have HSL := Lib.hid hs
  clear h ho hs
  go_enter Tryz.func6, Tryz.ntmps6
  go_wp2_with (fail)
  have nb := (heap_alloc_new w (.cells #[.slice ao l.length cp, .slice ra rn rc, .int .i64 c, .int .i64 m] 25))
  have o0 : OwnSl tSrc 32 (w.alloc (.cells #[.slice ao l.length cp, .slice ra rn rc, .int .i64 c, .int .i64 m] 25)).heap.size ((w.alloc (.cells #[.slice ao l.length cp, .slice ra rn rc, .int .i64 c, .int .i64 m] 25)).alloc (.cells #[] 32)) (.slice (some ⟨(w.alloc (.cells #[.slice ao l.length cp, .slice ra rn rc, .int .i64 c, .int .i64 m] 25)).heap.size, 0, none⟩) 0 0) [] := OwnSl.lit (css := []) rfl trivial (Nat.le_refl _) (by decide)
  have hsz : (w.alloc (.cells #[.slice ao l.length cp, .slice ra rn rc, .int .i64 c, .int .i64 m] 25)).heap.size = w.heap.size + 1 := by simp
  rw [hsz] at o0
  have hb0 := bl_alloc (bl_alloc (Below.refl w.heap.size w) (.cells #[.slice ao l.length cp, .slice ra rn rc, .int .i64 c, .int .i64 m] 25)) (.cells #[] 32)
  have nb2 := (bl_alloc (Below.refl (w.alloc (.cells #[.slice ao l.length cp, .slice ra rn rc, .int .i64 c, .int .i64 m] 25)).heap.size (w.alloc (.cells #[.slice ao l.length cp, .slice ra rn rc, .int .i64 c, .int .i64 m] 25))) (.cells #[] 32)).block _ (lt_of_heap nb) |>.trans nb
  generalize (w.alloc _).alloc _ = w1 at o0 hb0 nb2 ⊢
  have HBX := Lib.hid nb2
  have HB0 := Lib.hid hb0
  have HG0 := Lib.hid (show Gat w1 (.slice (some ⟨w.heap.size + 1, 0, none⟩) 0 0) [] (InU l 0) (0 * 20) from ⟨o0.sl, List.Pairwise.nil, fun y => by simp [InU], by simp⟩)
  clear nb o0 hsz hb0 nb2
  go_loopg [3, 4] l.length (fun gx v i wo => ∃ (k : Nat) (s : List Src), k + gx = l.length ∧ i = .int .i64 (k : Nat) ∧ Hid (Gat wo v s (InU l k) (k * 20)) ∧ Hid (Below w1.heap.size w1 wo))
  case atStart => exact ⟨0, [], by omega, rfl, HG0, Lib.hid (Below.refl _ _)⟩
  case round =>
    obtain ⟨wo, rfl⟩ : ∃ wo : World, wo = wr := ⟨_, rfl⟩
    obtain ⟨k, s, hk, rfl, HG, HB⟩ := hrel
    clear HG0
    have hbx := (HB.out.block _ (lt_of_heap HBX.out)).trans HBX.out
    obtain ⟨b0, -, -, -, -⟩ := blk4 hbx
    have HBW := Lib.hid (HB0.out.trans (HB.out.mono HB0.out.size))
    by_cases hlt : k < l.length
    · have HTK := Lib.hid (flat_take hlt)
      have HL20 := Lib.hid (HSL.out l[k] (List.getElem_mem hlt))
      have HX := Lib.hid (fun w' hw' => HO.out w' hw' k hlt)
      clear hbx
      generalize l[k] = x at HTK HL20 HX
      go_wp2_with (fail)
      go_loopg [3, 5] x.src.length (fun gx v i wr => ∃ (j : Nat) (s : List Src), j + gx = x.src.length ∧ i = .int .i64 (j : Nat) ∧ Hid (Gat wr v s (fun y => InU l k y ∨ y ∈ x.src.take j) (k * 20 + j)) ∧ Hid (Below w1.heap.size w1 wr))
      case atStart => exact ⟨0, s, by omega, rfl, Lib.hid (HG.out.cast (fun y => by simp) (by omega)), HB⟩
      case round =>
        obtain ⟨wx, rfl⟩ : ∃ wx : World, wx = wr := ⟨_, rfl⟩
        obtain ⟨j, s, hj, rfl, HG, HB⟩ := hrel
        have hbx := (HB.out.block _ (lt_of_heap HBX.out)).trans HBX.out
        obtain ⟨b0, -, -, -, -⟩ := blk4 hbx
        have HBW := Lib.hid (HB0.out.trans (HB.out.mono HB0.out.size))
        obtain ⟨rfl, -, -, -, ax, nx, cx, hsx, hc⟩ := HX.out wx (.of_below HBW.out)
        obtain ⟨a3, c3, gs, o3, hsv, -, r2, hso⟩ := src_row hsx
        injection hsv with e1 e2 e3
        subst e1 e2 e3
        unfold maxLen at r2
        have c7 : wx.cell? ⟨g, o + k * 8 + 7, none⟩ = some (.slice ax x.src.length cx) := (hc 7 (by decide)).trans rfl
        by_cases hlj : j < x.src.length
        · obtain ⟨rfl, -, -, hok, y0, y1⟩ := hso wx (SameOn.refl _ _) j hlj
          have HTJ := Lib.hid (List.take_succ_eq_append_getElem hlj)
          generalize x.src[j] = y at HTJ hok y0 y1
          have k0 : (0 : Int) ≤ (k : Int) := by omega
          have k1 : (k : Int) < (l.length : Int) := by omega
          have j0 : (0 : Int) ≤ (j : Int) := by omega
          have j1 : (j : Int) < (x.src.length : Int) := by omega
          have hl20 := HL20.out
          clear hso hc hbx hsx
          go_upto_region 8 with (fail)
          have HKB := Lib.hid (show ∀ w', Below wx.heap.size wx w' → w'.cell? ⟨w.heap.size, 0, none⟩ = some (.slice (some ⟨g, o, none⟩) l.length cp) from fun w' hw' => (hw'.cell (p := ⟨w.heap.size, 0, none⟩) (lt_cell b0)).trans b0)
          have HK7 := Lib.hid (show ∀ w', Below wx.heap.size wx w' → w'.cell? ⟨g, o + k * 8 + 7, none⟩ = some (.slice (some ⟨gs, o3, none⟩) x.src.length cx) from fun w' hw' => (hw'.cell (p := ⟨g, o + k * 8 + 7, none⟩) (lt_cell c7)).trans c7)
          have HKD := Lib.hid (show ∀ w', Below wx.heap.size wx w' → w'.cell? ⟨gs, o3 + j * 2, none⟩ = some (.string y.dev) from fun w' hw' => (hw'.cell (p := ⟨gs, o3 + j * 2, none⟩) (lt_cell y0)).trans y0)
          have HKS := Lib.hid (show ∀ w', Below wx.heap.size wx w' → w'.cell? ⟨gs, o3 + j * 2 + 1, none⟩ = some (.int .i64 y.seq) from fun w' hw' => (hw'.cell (p := ⟨gs, o3 + j * 2 + 1, none⟩) (lt_cell y1)).trans y1)
          clear b0 c7 y0 y1
          refine wp_region_E 23 (fun w' => Below wx.heap.size wx w') (by kernel_rfl) ((by (repeat (first | (with_reducible exact Below.refl _ _) | (with_reducible apply bl_drewN) | (with_reducible apply bl_alloc) | (with_reducible apply Below.drew))); done)) (fun hHeld => ?_)
          refine wpE_take (i := 0) (v := ?_) rfl (by kernel_rfl) (fun _ _ _ h => h) (Or.inl ⟨by kernel_rfl, ?_⟩) (by assumption) ?_
          rotate_left
          focus (intro w9 hS9; (try dsimp only at hS9); go_simp; (try with_reducible rfl))
          (try simp only [List.getElem_toArray, List.getElem_cons_zero])
          (try simp only [Act.put])
          (try simp only [List.setIfInBounds_toArray])
          (repeat (first | simp only [List.set_cons_succ] | simp only [List.set_cons_zero]))
          refine wpE_take (i := 1) (v := ?_) rfl (by kernel_rfl) (fun _ _ _ h => h) (Or.inl ⟨by kernel_rfl, ?_⟩) (by assumption) ?_
          rotate_left
          focus (intro w9 hS9; have z0 := HKB.out w9 hS9; clear hS9; go_simp; (try with_reducible rfl))
          (try simp only [List.getElem_toArray, List.getElem_cons_succ, List.getElem_cons_zero])
          (try simp only [Act.put])
          (try simp only [List.setIfInBounds_toArray])
          (repeat (first | simp only [List.set_cons_succ] | simp only [List.set_cons_zero]))
          refine wpE_take (i := 2) (v := ?_) rfl (by kernel_rfl) (fun _ _ _ h => h) (Or.inl ⟨by kernel_rfl, ?_⟩) (by assumption) ?_
          rotate_left
          focus (intro w9 hS9; (try dsimp only at hS9); go_simp; (try with_reducible rfl))
          (try simp only [List.getElem_toArray, List.getElem_cons_succ, List.getElem_cons_zero])
          (try simp only [Act.put])
          (try simp only [List.setIfInBounds_toArray])
          (repeat (first | simp only [List.set_cons_succ] | simp only [List.set_cons_zero]))
          refine wpE_take (i := 3) (v := ?_) rfl (by kernel_rfl) (fun _ _ _ h => h) (Or.inl ⟨by kernel_rfl, ?_⟩) (by assumption) ?_
          rotate_left
          focus (intro w9 hS9; (try dsimp only at hS9); go_simp; (try with_reducible rfl))
          (try simp only [List.getElem_toArray, List.getElem_cons_succ, List.getElem_cons_zero])
          (try simp only [Act.put])
          (try simp only [List.setIfInBounds_toArray])
          (repeat (first | simp only [List.set_cons_succ] | simp only [List.set_cons_zero]))
          refine wpE_take (i := 4) (v := ?_) rfl (by kernel_rfl) (fun _ _ _ h => h) (Or.inl ⟨by kernel_rfl, ?_⟩) (by assumption) ?_
          rotate_left
          focus (intro w9 hS9; (try dsimp only at hS9); go_simp; (try with_reducible rfl))
          (try simp only [List.getElem_toArray, List.getElem_cons_succ, List.getElem_cons_zero])
          (try simp only [Act.put])
          (try simp only [List.setIfInBounds_toArray])
          (repeat (first | simp only [List.set_cons_succ] | simp only [List.set_cons_zero]))
          refine wpE_take (i := 5) (v := ?_) rfl (by kernel_rfl) (fun _ _ _ h => h) (Or.inl ⟨by kernel_rfl, ?_⟩) (by assumption) ?_
          rotate_left
          focus (intro w9 hS9; have z0 := HK7.out w9 hS9; clear hS9; go_simp; (try with_reducible rfl))
          (try simp only [List.getElem_toArray, List.getElem_cons_succ, List.getElem_cons_zero])
          (try simp only [Act.put])
          (try simp only [List.setIfInBounds_toArray])
          (repeat (first | simp only [List.set_cons_succ] | simp only [List.set_cons_zero]))
          refine wpE_take (i := 6) (v := ?_) rfl (by kernel_rfl) (fun _ _ _ h => h) (Or.inl ⟨by kernel_rfl, ?_⟩) (by assumption) ?_
          rotate_left
          focus (intro w9 hS9; (try dsimp only at hS9); go_simp; (try with_reducible rfl))
          (try simp only [List.getElem_toArray, List.getElem_cons_succ, List.getElem_cons_zero])
          (try simp only [Act.put])
          (try simp only [List.setIfInBounds_toArray])
          (repeat (first | simp only [List.set_cons_succ] | simp only [List.set_cons_zero]))
          refine wpE_take (i := 7) (v := ?_) rfl (by kernel_rfl) (fun _ _ _ h => h) (Or.inl ⟨by kernel_rfl, ?_⟩) (by assumption) ?_
          rotate_left
          focus (intro w9 hS9; (try dsimp only at hS9); go_simp; (try with_reducible rfl))
          (try simp only [List.getElem_toArray, List.getElem_cons_succ, List.getElem_cons_zero])
          (try simp only [Act.put])
          (try simp only [List.setIfInBounds_toArray])
          (repeat (first | simp only [List.set_cons_succ] | simp only [List.set_cons_zero]))
          refine wpE_take (i := 8) (v := ?_) rfl (by kernel_rfl) (fun _ _ _ h => h) (Or.inl ⟨by kernel_rfl, ?_⟩) (by assumption) ?_
          rotate_left
          focus (intro w9 hS9; (try dsimp only at hS9); go_simp; (try with_reducible rfl))
          (try simp only [List.getElem_toArray, List.getElem_cons_succ, List.getElem_cons_zero])
          (try simp only [Act.put])
          (try simp only [List.setIfInBounds_toArray])
          (repeat (first | simp only [List.set_cons_succ] | simp only [List.set_cons_zero]))
          refine wpE_take (i := 9) (v := ?_) rfl (by kernel_rfl) (fun _ _ _ h => h) (Or.inl ⟨by kernel_rfl, ?_⟩) (by assumption) ?_
          rotate_left
          focus (intro w9 hS9; have z0 := HKD.out w9 hS9; clear hS9; go_simp; (try with_reducible rfl))
          (try simp only [List.getElem_toArray, List.getElem_cons_succ, List.getElem_cons_zero])
          (try simp only [Act.put])
          (try simp only [List.setIfInBounds_toArray])
          (repeat (first | simp only [List.set_cons_succ] | simp only [List.set_cons_zero]))
          refine wpE_take (i := 10) (v := ?_) rfl (by kernel_rfl) (fun _ _ _ h => h) (Or.inl ⟨by kernel_rfl, ?_⟩) (by assumption) ?_
          rotate_left
          focus (intro w9 hS9; (try dsimp only at hS9); go_simp; (try with_reducible rfl))
          (try simp only [List.getElem_toArray, List.getElem_cons_succ, List.getElem_cons_zero])
          (try simp only [Act.put])
          (try simp only [List.setIfInBounds_toArray])
          (repeat (first | simp only [List.set_cons_succ] | simp only [List.set_cons_zero]))
          refine wpE_take (i := 11) (v := ?_) rfl (by kernel_rfl) (fun _ _ _ h => h) (Or.inl ⟨by kernel_rfl, ?_⟩) (by assumption) ?_
          rotate_left
          focus (intro w9 hS9; have z0 := HKB.out w9 hS9; clear hS9; go_simp; (try with_reducible rfl))
          (try simp only [List.getElem_toArray, List.getElem_cons_succ, List.getElem_cons_zero])
          (try simp only [Act.put])
          (try simp only [List.setIfInBounds_toArray])
          (repeat (first | simp only [List.set_cons_succ] | simp only [List.set_cons_zero]))
          refine wpE_take (i := 12) (v := ?_) rfl (by kernel_rfl) (fun _ _ _ h => h) (Or.inl ⟨by kernel_rfl, ?_⟩) (by assumption) ?_
          rotate_left
          focus (intro w9 hS9; (try dsimp only at hS9); go_simp; (try with_reducible rfl))
          (try simp only [List.getElem_toArray, List.getElem_cons_succ, List.getElem_cons_zero])
          (try simp only [Act.put])
          (try simp only [List.setIfInBounds_toArray])
          (repeat (first | simp only [List.set_cons_succ] | simp only [List.set_cons_zero]))
          refine wpE_take (i := 13) (v := ?_) rfl (by kernel_rfl) (fun _ _ _ h => h) (Or.inl ⟨by kernel_rfl, ?_⟩) (by assumption) ?_
          rotate_left
          focus (intro w9 hS9; (try dsimp only at hS9); go_simp; (try with_reducible rfl))
          (try simp only [List.getElem_toArray, List.getElem_cons_succ, List.getElem_cons_zero])
          (try simp only [Act.put])
          (try simp only [List.setIfInBounds_toArray])
          (repeat (first | simp only [List.set_cons_succ] | simp only [List.set_cons_zero]))
          refine wpE_take (i := 14) (v := ?_) rfl (by kernel_rfl) (fun _ _ _ h => h) (Or.inl ⟨by kernel_rfl, ?_⟩) (by assumption) ?_
          rotate_left
          focus (intro w9 hS9; (try dsimp only at hS9); go_simp; (try with_reducible rfl))
          (try simp only [List.getElem_toArray, List.getElem_cons_succ, List.getElem_cons_zero])
          (try simp only [Act.put])
          (try simp only [List.setIfInBounds_toArray])
          (repeat (first | simp only [List.set_cons_succ] | simp only [List.set_cons_zero]))
          refine wpE_take (i := 15) (v := ?_) rfl (by kernel_rfl) (fun _ _ _ h => h) (Or.inl ⟨by kernel_rfl, ?_⟩) (by assumption) ?_
          rotate_left
          focus (intro w9 hS9; have z0 := HK7.out w9 hS9; clear hS9; go_simp; (try with_reducible rfl))
          (try simp only [List.getElem_toArray, List.getElem_cons_succ, List.getElem_cons_zero])
          (try simp only [Act.put])
          (try simp only [List.setIfInBounds_toArray])
          (repeat (first | simp only [List.set_cons_succ] | simp only [List.set_cons_zero]))
          refine wpE_take (i := 16) (v := ?_) rfl (by kernel_rfl) (fun _ _ _ h => h) (Or.inl ⟨by kernel_rfl, ?_⟩) (by assumption) ?_
          rotate_left
          focus (intro w9 hS9; (try dsimp only at hS9); go_simp; (try with_reducible rfl))
          (try simp only [List.getElem_toArray, List.getElem_cons_succ, List.getElem_cons_zero])
          (try simp only [Act.put])
          (try simp only [List.setIfInBounds_toArray])
          (repeat (first | simp only [List.set_cons_succ] | simp only [List.set_cons_zero]))
          refine wpE_take (i := 17) (v := ?_) rfl (by kernel_rfl) (fun _ _ _ h => h) (Or.inl ⟨by kernel_rfl, ?_⟩) (by assumption) ?_
          rotate_left
          focus (intro w9 hS9; (try dsimp only at hS9); go_simp; (try with_reducible rfl))
          (try simp only [List.getElem_toArray, List.getElem_cons_succ, List.getElem_cons_zero])
          (try simp only [Act.put])
          (try simp only [List.setIfInBounds_toArray])
          (repeat (first | simp only [List.set_cons_succ] | simp only [List.set_cons_zero]))
          refine wpE_take (i := 18) (v := ?_) rfl (by kernel_rfl) (fun _ _ _ h => h) (Or.inl ⟨by kernel_rfl, ?_⟩) (by assumption) ?_
          rotate_left
          focus (intro w9 hS9; (try dsimp only at hS9); go_simp; (try with_reducible rfl))
          (try simp only [List.getElem_toArray, List.getElem_cons_succ, List.getElem_cons_zero])
          (try simp only [Act.put])
          (try simp only [List.setIfInBounds_toArray])
          (repeat (first | simp only [List.set_cons_succ] | simp only [List.set_cons_zero]))
          refine wpE_take (i := 19) (v := ?_) rfl (by kernel_rfl) (fun _ _ _ h => h) (Or.inl ⟨by kernel_rfl, ?_⟩) (by assumption) ?_
          rotate_left
          focus (intro w9 hS9; have z0 := HKS.out w9 hS9; clear hS9; go_simp; (try with_reducible rfl))
          (try simp only [List.getElem_toArray, List.getElem_cons_succ, List.getElem_cons_zero])
          (try simp only [Act.put])
          (try simp only [List.setIfInBounds_toArray])
          (repeat (first | simp only [List.set_cons_succ] | simp only [List.set_cons_zero]))
          refine wpE_take (i := 20) (v := ?_) rfl (by kernel_rfl) (fun _ _ _ h => h) (Or.inl ⟨by kernel_rfl, ?_⟩) (by assumption) ?_
          rotate_left
          focus (intro w9 hS9; (try dsimp only at hS9); go_simp; (try with_reducible rfl))
          (try simp only [List.getElem_toArray, List.getElem_cons_succ, List.getElem_cons_zero])
          (try simp only [Act.put])
          (try simp only [List.setIfInBounds_toArray])
          (repeat (first | simp only [List.set_cons_succ] | simp only [List.set_cons_zero]))
          refine wpE_take (i := 21) (v := ?_) rfl (by kernel_rfl) (fun _ _ _ h => h) (Or.inl ⟨by kernel_rfl, ?_⟩) (by assumption) ?_
          rotate_left
          focus (intro w9 hS9; (try dsimp only at hS9); go_simp; (try with_reducible rfl))
          (try simp only [List.getElem_toArray, List.getElem_cons_succ, List.getElem_cons_zero])
          (try simp only [Act.put])
          (try simp only [List.setIfInBounds_toArray])
          (repeat (first | simp only [List.set_cons_succ] | simp only [List.set_cons_zero]))
          refine wpE_ready (rs := [22]) (by kernel_rfl) (by kernel_rfl) ?_
          refine AllReadyE.cons rfl (fun K hK => ?_) AllReadyE.nil
          go_simp
          clear hHeld
          refine hK.out _ _ ((by (repeat (first | (with_reducible exact Below.refl _ _) | (with_reducible apply bl_drewN) | (with_reducible apply bl_alloc) | (with_reducible apply Below.drew))); done)) (fun hHeld => ?_)
          clear hK K
          clear hHeld
          refine wpE_out (by kernel_rfl) ?_
          refine wpAny_ready (rs := [23]) (by kernel_rfl) (by simp) ?_
          refine AllReady.cons rfl (fun K hK => ?_) AllReady.nil
          rw [if_pos (show _ = true by kernel_rfl)]
          go_simp
          refine hK _ _ ?_
          clear hK K
          refine wpAny_done (by kernel_rfl) ?_ _
          have nb : ((wx.alloc (.cells (sxA y) 63)).drew).heap[wx.heap.size]? = some (.cells (sxA y) 63 (0, 0)) := heap_alloc_new _ _
          have hbn : Below wx.heap.size wx (wx.alloc (.cells (sxA y) 63)).drew := (bl_alloc (Below.refl _ _) _).drew
          change Exit.then _ _ _ _ (wx.alloc (.cells (sxA y) 63)).drew
          generalize (wx.alloc _).drew = wn at nb hbn ⊢
          have HNB := Lib.hid nb
          have HBN := Lib.hid hbn
          have HGN := Lib.hid (HG.out.below hbn)
          have ld1 := load_sx Tryz.prog nb
          clear nb hbn HKB HK7 HKD HKS
          by_cases hq : y ∈ s
          · have HHS := Lib.hid (has_any s _ y wn HGN.out.sl)
            rw [decide_eq_true hq] at HHS
            have HQ := Lib.hid hq
            clear hq
            go_wp2_with (first
              | (refine wpList_loadA _ rfl 63 rfl Tryz.isAgg63 Tryz.sizeOf63 rfl (by with_reducible assumption) ?_)
              | (go_at_call 16
                 with_reducible refine HHS.out.mono ?_
                 rintro e w2 ⟨rfl, hb2⟩
                 have HB2 := Lib.hid hb2
                 clear hb2 ld1))
            go_roundg (x.src.length - (j + 1))
            case measure => omega
            case rel => exact ⟨j + 1, s, by omega, by go_num, Lib.hid ((HGN.out.below HB2.out).cast (fun z => by
              rw [HTJ.out, List.mem_append, List.mem_singleton, ← or_assoc]
              refine ⟨.inl, fun h => h.elim id fun h => ?_⟩
              subst h
              exact (HG.out.me _).1 HQ.out) (by omega)), Lib.hid (HB.out.trans ((HBN.out.trans (HB2.out.mono HBN.out.size)).mono HB.out.size))⟩
          · have HHS := Lib.hid (has_any s _ y wn HGN.out.sl)
            rw [decide_eq_false hq] at HHS
            have HQ := Lib.hid hq
            have HOK := Lib.hid hok
            have HLN := Lib.hid (show s.length ≤ 1000 by have := HG.out.ln; omega)
            clear hq hok
            go_wp2_with (first
              | (refine wpList_loadA _ rfl 63 rfl Tryz.isAgg63 Tryz.sizeOf63 rfl (by with_reducible assumption) ?_)
              | (go_at_call 16
                 with_reducible refine HHS.out.mono ?_
                 rintro e w2 ⟨rfl, hb2⟩
                 have HB2 := Lib.hid hb2
                 have ld2 := load_sx Tryz.prog ((HB2.out.block _ (lt_of_heap HNB.out)).trans HNB.out)
                 have HG2 := Lib.hid (HGN.out.below HB2.out)
                 clear hb2 ld1)
              | (go_at_call 17
                 with_reducible refine (source_any s _ y _ HG2.out.sl HLN.out HG2.out.so HQ.out HOK.out).mono ?_
                 rintro e w3 ⟨⟨v3, rfl, m3, hs3, hso3, hm3, hl3⟩, hb3⟩
                 have HG3 := Lib.hid (show Gat w3 v3 m3 (fun z => InU l k z ∨ z ∈ x.src.take (j + 1)) (k * 20 + (j + 1)) from ⟨hs3, hso3, fun z => by
                   rw [hm3, HG2.out.me, HTJ.out, List.mem_append, List.mem_singleton, or_assoc], by have := HG2.out.ln; omega⟩)
                 have HB3 := Lib.hid hb3
                 clear hs3 hso3 hm3 hl3 hb3 ld2))
            go_roundg (x.src.length - (j + 1))
            case measure => omega
            case rel => exact ⟨j + 1, m3, by omega, by go_num, HG3, Lib.hid (HB.out.trans ((HBN.out.trans ((HB2.out.trans (HB3.out.mono HB2.out.size)).mono HBN.out.size)).mono HB.out.size))⟩
        · obtain rfl : j = x.src.length := by omega
          have hkl : ¬ (x.src.length : Int) < (x.src.length : Int) := by omega
          have k0 : (0 : Int) ≤ (k : Int) := by omega
          have k1 : (k : Int) < (l.length : Int) := by omega
          have HN := Lib.hid (show Gat wx _ s (InU l (k + 1)) ((k + 1) * 20) from HG.out.cast (fun y => by unfold InU; rw [HTK.out, List.mem_append, List.take_length]) (by have := HL20.out; omega))
          clear hlj hso hc hbx hsx
          go_wp2_with (fail)
          go_roundg (l.length - (k + 1))
          case measure => omega
          case rel => exact ⟨k + 1, s, by omega, by go_num, HN, HB⟩
    · obtain rfl : k = l.length := by omega
      have hkl : ¬ (l.length : Int) < (l.length : Int) := by omega
      have HQ := Lib.hid (show Gat wo _ s (InU l l.length) 600 from HG.out.cast (fun y => Iff.rfl) (by omega))
      clear hlt hbx
      go_wp2_with (fail)
      go_ret
      exact ⟨⟨_, rfl, _, HQ.out⟩, HBW.out⟩
end Go.Proofs.YtelnnjofccldgaaGreatDoor.Fu
