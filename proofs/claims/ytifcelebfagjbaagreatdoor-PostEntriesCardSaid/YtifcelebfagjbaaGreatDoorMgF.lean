/-
  Layers 32, 37: the copies of lines, posts, entries, charges.
-/
import Derived.Test.YtifcelebfagjbaaGreatDoorMgE
import Derived.Lib.LazyBuf
namespace Go.Proofs.YtifcelebfagjbaaGreatDoor
open Go.RowKit Go.Tw Go.Tw.Ord Go.Tw.Po Go.Sort
theorem slLin : SlT Tryz.prog 47 140 2 24 := SlT.of (z := .agg #[.string ByteArray.empty, .int .i64 0]) Tryz.underlying47 (by kernel_rfl) rfl (by decide)
theorem slPst : SlT Tryz.prog 54 101 2 24 := SlT.of (z := .agg #[.string ByteArray.empty, .int .i64 0]) Tryz.underlying54 (by kernel_rfl) rfl (by decide)
theorem slEnt : SlT Tryz.prog 66 56 3 48 := SlT.of (z := .agg #[.string ByteArray.empty, .int .i64 0, .slice none 0 0]) Tryz.underlying66 (by kernel_rfl) rfl (by decide)
theorem slChg : SlT Tryz.prog 52 49 7 96 := SlT.of (z := .agg #[.string ByteArray.empty, .string ByteArray.empty, .string ByteArray.empty, .int .i64 0, .int .i64 0, .slice none 0 0, .int .i64 0]) Tryz.underlying52 (by kernel_rfl) rfl (by decide)
set_option maxHeartbeats 400000 in
theorem cloneL_any (l : List SI) (v : Value) (w : World) (h : SlIs tSI (· < w.heap.size) w v l) (hlen : l.length ≤ 1000000) :
    Calls Tryz.prog 89 #[v] w fun e w' => ∃ v', e = .returned v' ∧ NewL tSI 140 w.heap.size w' v' l ∧ Below w.heap.size w w' := by
  have h' := h
  obtain ⟨ao, cap, b, off, hv, hl, hm, h3, ho⟩ := h
  subst hv
  have heq := fun w => Lib.run_eql_slice_nil (P := Tryz.prog) w 47 140 ao l.length cap 0 0 Tryz.underlying47
  cases ao with
  | none =>
    have hc := h3 rfl
    subst hc
    obtain rfl : l = [] := List.eq_nil_of_length_eq_zero (by omega)
    simp only [List.length_nil] at heq
    clear h3 ho h'
    go_enter Tryz.func89, Tryz.ntmps89
    go_wp2
    go_ret
    exact ⟨_, rfl, NewL.nil, Below.refl _ _⟩
  | some a =>
    have HH := Lib.hid h'
    clear h3 ho h'
    have o0 : OwnSl tSI 140 w.heap.size (w.alloc (.cells #[] 140)) (.slice (some ⟨w.heap.size, 0, none⟩) 0 0) [] := OwnSl.lit (css := []) rfl trivial (Nat.le_refl _) (by decide)
    have h2 : SlIs tSI (· < w.heap.size) (w.alloc (.cells #[] 140)) (.slice (some a) l.length cap) l := HH.out.keep (fun _ h => h) (fun k hk => Below.heap_alloc _ _ _ hk)
    have H2 := Lib.hid h2
    have HO := Lib.hid o0
    have HL := Lib.hid hlen
    clear o0 h2
    go_enter Tryz.func89, Tryz.ntmps89
    go_wp2_with (at_builtin; refine wpList_append_old (.tmp 5) (.tmp 6) rfl 47 rfl slLin rfl HO.out rfl H2.out (small_bytes (k := 1000000) (by simpa using HL.out) (by decide)) (Nat.le_trans (by simpa using HL.out) (show 1000000 ≤ maxLen by decide)) (by simp) ?_; intro v' w1 ho1 hg1 hb1)
    go_ret
    exact ⟨_, rfl, NewL.ofOwn ownSI ho1 (Nat.le_refl _), (bl_alloc (Below.refl _ _) _).trans hb1⟩
set_option maxHeartbeats 400000 in
theorem cloneP_any (l : List SI) (v : Value) (w : World) (h : SlIs tSI (· < w.heap.size) w v l) (hlen : l.length ≤ 1000000) :
    Calls Tryz.prog 88 #[v] w fun e w' => ∃ v', e = .returned v' ∧ NewL tSI 101 w.heap.size w' v' l ∧ Below w.heap.size w w' := by
  have h' := h
  obtain ⟨ao, cap, b, off, hv, hl, hm, h3, ho⟩ := h
  subst hv
  have heq := fun w => Lib.run_eql_slice_nil (P := Tryz.prog) w 54 101 ao l.length cap 0 0 Tryz.underlying54
  cases ao with
  | none =>
    have hc := h3 rfl
    subst hc
    obtain rfl : l = [] := List.eq_nil_of_length_eq_zero (by omega)
    simp only [List.length_nil] at heq
    clear h3 ho h'
    go_enter Tryz.func88, Tryz.ntmps88
    go_wp2
    go_ret
    exact ⟨_, rfl, NewL.nil, Below.refl _ _⟩
  | some a =>
    have HH := Lib.hid h'
    clear h3 ho h'
    have o0 : OwnSl tSI 101 w.heap.size (w.alloc (.cells #[] 101)) (.slice (some ⟨w.heap.size, 0, none⟩) 0 0) [] := OwnSl.lit (css := []) rfl trivial (Nat.le_refl _) (by decide)
    have h2 : SlIs tSI (· < w.heap.size) (w.alloc (.cells #[] 101)) (.slice (some a) l.length cap) l := HH.out.keep (fun _ h => h) (fun k hk => Below.heap_alloc _ _ _ hk)
    have H2 := Lib.hid h2
    have HO := Lib.hid o0
    have HL := Lib.hid hlen
    clear o0 h2
    go_enter Tryz.func88, Tryz.ntmps88
    go_wp2_with (at_builtin; refine wpList_append_old (.tmp 5) (.tmp 6) rfl 54 rfl slPst rfl HO.out rfl H2.out (small_bytes (k := 1000000) (by simpa using HL.out) (by decide)) (Nat.le_trans (by simpa using HL.out) (show 1000000 ≤ maxLen by decide)) (by simp) ?_; intro v' w1 ho1 hg1 hb1)
    go_ret
    exact ⟨_, rfl, NewL.ofOwn ownSI ho1 (Nat.le_refl _), (bl_alloc (Below.refl _ _) _).trans hb1⟩
end Go.Proofs.YtifcelebfagjbaaGreatDoor
/-
  Layers 32, 37: an entry's and a charge's copy.
-/
namespace Go.Tw
theorem blk7 {w : World} {g : Nat} {a b c d e f h : Value} {t : TypeId} (H : w.heap[g]? = some (.cells #[a, b, c, d, e, f, h] t (0, 0))) : w.cell? ⟨g, 0, none⟩ = some a ∧ w.cell? ⟨g, 1, none⟩ = some b ∧ w.cell? ⟨g, 2, none⟩ = some c ∧ w.cell? ⟨g, 3, none⟩ = some d ∧ w.cell? ⟨g, 4, none⟩ = some e ∧ w.cell? ⟨g, 5, none⟩ = some f ∧ w.cell? ⟨g, 6, none⟩ = some h ∧ ∀ j, w.frozen? ⟨g, j, none⟩ = false := ⟨cell_of_row _ _ 0 _ _ _ H, cell_of_row _ _ 1 _ _ _ H, cell_of_row _ _ 2 _ _ _ H, cell_of_row _ _ 3 _ _ _ H, cell_of_row _ _ 4 _ _ _ H, cell_of_row _ _ 5 _ _ _ H, cell_of_row _ _ 6 _ _ _ H, fun j => frozen_of_row _ _ j _ _ H⟩
end Go.Tw
namespace Go.Proofs.YtifcelebfagjbaaGreatDoor
open Go.RowKit Go.Tw Go.Tw.Ord Go.Tw.Po Go.Sort
set_option maxHeartbeats 400000 in
theorem cloneE_any (f : Ent) (h : Value) (w : World) (hi : SlIs tSI (· < w.heap.size) w h f.ps) (hlen : f.ps.length ≤ 1000000) :
    Calls Tryz.prog 106 #[.agg #[.string f.key, .int .i64 f.tm, h]] w
      fun e w' => ∃ h', e = .returned (.agg #[.string f.key, .int .i64 f.tm, h']) ∧ NewL tSI 101 w.heap.size w' h' f.ps ∧ Below w.heap.size w w' := by
  obtain ⟨ha, hcp, bb, boff, rfl, hn1, hn2, -⟩ := si_open hi
  let W1 := (w.alloc (.cells #[.string f.key, .int .i64 f.tm, .slice ha f.ps.length hcp] 56)).alloc (.cells #[.string ByteArray.empty, .int .i64 0, .slice none 0 0] 56)
  have b1 : Below w.heap.size w W1 := bl_alloc (bl_alloc (Below.refl _ _) _) _
  go_enter Tryz.func106, Tryz.ntmps106
  go_wp2_with (fail)
  refine (cloneP_any f.ps _ _ (hi.step b1) hlen).mono ?_
  rintro e w2 ⟨h', rfl, hs, hb2⟩
  obtain ⟨ao', cap', rfl, -⟩ := hs.form
  have hs' := hs
  clear hs
  have hsz : W1.heap.size = w.heap.size + 2 := by simp [W1]
  have hz2 := hb2.size
  have n0 : w2.heap[w.heap.size]? = _ := (hb2.block _ (by omega)).trans (heap_alloc2_old w _ _)
  have n1 : w2.heap[w.heap.size + 1]? = _ := (hb2.block _ (by omega)).trans (heap_alloc2_new w _ _)
  have l0 : w.heap.size < w2.heap.size := by omega
  have l1 : w.heap.size + 1 < w2.heap.size := by omega
  obtain ⟨c0, c1, c2, cf⟩ := blk3 n0
  obtain ⟨d0, d1, d2, df⟩ := blk3 n1
  rw [hsz] at hs'
  have HS := Lib.hid hs'
  have b2 := bl_trans b1 hb2
  clear n0 n1 hs' hsz hz2 hn1 hn2 hi b1 hb2
  clear W1
  go_wp2
  refine bodyPost_ret (v := .agg #[.string f.key, .int .i64 f.tm, .slice ao' f.ps.length cap']) (by simp [results, Tryz.results106, go_sem, d0, d1, d2]) rfl ⟨_, rfl, ?_, ?_⟩
  · refine (HS.out.same ?_).mono (by omega)
    (repeat (first | (with_reducible exact SameOn.refl _ _) | (with_reducible exact SameOn.refl _ _) | ((with_reducible refine SameOn.set ?_ ?_ _); rotate_left; focus (first | (simp; done) | (simp; omega))) | (with_reducible apply SameOn.drewN)))
  · (repeat (first | (with_reducible exact b2) | (with_reducible apply bl_drewN) | (with_reducible apply bl_alloc) | ((with_reducible refine bl_set ?_ _ ?_); rotate_left; focus (first | exact Nat.le_refl _ | (simp; done) | (simp; omega)))))
set_option maxHeartbeats 800000 in
theorem cloneC_any (f : Chg) (h : Value) (w : World) (hi : SlIs tSI (· < w.heap.size) w h f.ls) (hlen : f.ls.length ≤ 1000000) :
    Calls Tryz.prog 52 #[.agg #[.string f.key, .string f.veh, .string f.sys, .int .i64 f.cls, .int .i64 f.tm, h, .int .i64 f.c]] w
      fun e w' => ∃ h', e = .returned (.agg #[.string f.key, .string f.veh, .string f.sys, .int .i64 f.cls, .int .i64 f.tm, h', .int .i64 f.c]) ∧ NewL tSI 140 w.heap.size w' h' f.ls ∧ Below w.heap.size w w' := by
  obtain ⟨ha, hcp, bb, boff, rfl, hn1, hn2, -⟩ := si_open hi
  let W1 := (w.alloc (.cells #[.string f.key, .string f.veh, .string f.sys, .int .i64 f.cls, .int .i64 f.tm, .slice ha f.ls.length hcp, .int .i64 f.c] 49)).alloc (.cells #[.string ByteArray.empty, .string ByteArray.empty, .string ByteArray.empty, .int .i64 0, .int .i64 0, .slice none 0 0, .int .i64 0] 49)
  have b1 : Below w.heap.size w W1 := bl_alloc (bl_alloc (Below.refl _ _) _) _
  go_enter Tryz.func52, Tryz.ntmps52
  go_wp2_with (fail)
  refine (cloneL_any f.ls _ _ (hi.step b1) hlen).mono ?_
  rintro e w2 ⟨h', rfl, hs, hb2⟩
  obtain ⟨ao', cap', rfl, -⟩ := hs.form
  have hs' := hs
  clear hs
  have hsz : W1.heap.size = w.heap.size + 2 := by simp [W1]
  have hz2 := hb2.size
  have n0 : w2.heap[w.heap.size]? = _ := (hb2.block _ (by omega)).trans (heap_alloc2_old w _ _)
  have n1 : w2.heap[w.heap.size + 1]? = _ := (hb2.block _ (by omega)).trans (heap_alloc2_new w _ _)
  have l0 : w.heap.size < w2.heap.size := by omega
  have l1 : w.heap.size + 1 < w2.heap.size := by omega
  obtain ⟨c0, c1, c2, c3, c4, c5, c6, cf⟩ := blk7 n0
  obtain ⟨d0, d1, d2, d3, d4, d5, d6, df⟩ := blk7 n1
  rw [hsz] at hs'
  have HS := Lib.hid hs'
  have b2 := bl_trans b1 hb2
  clear n0 n1 hs' hsz hz2 hn1 hn2 hi b1 hb2
  clear W1
  go_wp2
  refine bodyPost_ret (v := .agg #[.string f.key, .string f.veh, .string f.sys, .int .i64 f.cls, .int .i64 f.tm, .slice ao' f.ls.length cap', .int .i64 f.c]) (by simp [results, Tryz.results52, go_sem, d0, d1, d2, d3, d4, d5, d6]) rfl ⟨_, rfl, ?_, ?_⟩
  · refine (HS.out.same ?_).mono (by omega)
    (repeat (first | (with_reducible exact SameOn.refl _ _) | (with_reducible exact SameOn.refl _ _) | ((with_reducible refine SameOn.set ?_ ?_ _); rotate_left; focus (first | (simp; done) | (simp; omega))) | (with_reducible apply SameOn.drewN)))
  · (repeat (first | (with_reducible exact b2) | (with_reducible apply bl_drewN) | (with_reducible apply bl_alloc) | ((with_reducible refine bl_set ?_ _ ?_); rotate_left; focus (first | exact Nat.le_refl _ | (simp; done) | (simp; omega)))))
theorem newEnt {e : TypeId} {B : Nat} {w : World} {f : Ent} {h : Value} (hi : EntOk f) (hn : NewL tSI e B w h f.ps) : New (tEnt e) B w (eCells f h) f := by
  obtain ⟨F, h1, h2, h3⟩ := hn
  exact ⟨F, tEnt_own_mk hi h1, h2, h3⟩
theorem newChg {e : TypeId} {B : Nat} {w : World} {f : Chg} {h : Value} (hi : ChgOk f) (hn : NewL tSI e B w h f.ls) : New (tChg e) B w (cCells f h) f := by
  obtain ⟨F, h1, h2, h3⟩ := hn
  exact ⟨F, tChg_own_mk hi h1, h2, h3⟩
end Go.Proofs.YtifcelebfagjbaaGreatDoor
/-
  Layer 37 (post): find, Posted; the reference's Find, Posted.
-/
namespace Go.Tw.Po
open Go.RowKit Go.Tw Go.Sort Go.Tw.Ord
theorem chg_open {e : TypeId} {S : Nat → Prop} {w : World} {v : Value} {l : List Chg} (h : SlIs (tChg e) S w v l) :
    ∃ ao cap b off, v = .slice ao l.length cap ∧ l.length ≤ cap ∧ cap ≤ maxLen ∧ ∀ w', SameOn S w w' → ∀ k (_ : k < l.length), ao = some ⟨b, off, none⟩ ∧ S b ∧ b < w.heap.size ∧ ChgOk l[k] ∧ ∃ hv, SlIs tSI S w' hv l[k].ls ∧
      w'.cell? ⟨b, off + k * 7, none⟩ = some (.string l[k].key) ∧ w'.cell? ⟨b, off + k * 7 + 1, none⟩ = some (.string l[k].veh) ∧ w'.cell? ⟨b, off + k * 7 + 2, none⟩ = some (.string l[k].sys) ∧ w'.cell? ⟨b, off + k * 7 + 3, none⟩ = some (.int .i64 l[k].cls) ∧ w'.cell? ⟨b, off + k * 7 + 4, none⟩ = some (.int .i64 l[k].tm) ∧ w'.cell? ⟨b, off + k * 7 + 5, none⟩ = some hv ∧ w'.cell? ⟨b, off + k * 7 + 6, none⟩ = some (.int .i64 l[k].c) := by
  obtain ⟨ao, cap, b, off, hv, h1, h2, h3⟩ := h.openS
  refine ⟨ao, cap, b, off, hv, h1, h2, fun w' hw k hk => ?_⟩
  obtain ⟨g1, g2, g2', cs, g3, g4⟩ := h3 w' hw k hk
  obtain ⟨hv, rfl, g5, g6⟩ := tChg_is g4
  have g3' : ∀ j, j < 7 → w'.cell? ⟨b, off + k * 7 + j, none⟩ = (cCells l[k] hv)[j]? := g3
  exact ⟨g1, g2, g2', g5, hv, g6, g3' 0 (by decide), g3' 1 (by decide), g3' 2 (by decide), g3' 3 (by decide), g3' 4 (by decide), g3' 5 (by decide), g3' 6 (by decide)⟩
theorem ent_open {e : TypeId} {S : Nat → Prop} {w : World} {v : Value} {l : List Ent} (h : SlIs (tEnt e) S w v l) :
    ∃ ao cap b off, v = .slice ao l.length cap ∧ l.length ≤ cap ∧ cap ≤ maxLen ∧ ∀ w', SameOn S w w' → ∀ k (_ : k < l.length), ao = some ⟨b, off, none⟩ ∧ S b ∧ b < w.heap.size ∧ EntOk l[k] ∧ ∃ hv, SlIs tSI S w' hv l[k].ps ∧
      w'.cell? ⟨b, off + k * 3, none⟩ = some (.string l[k].key) ∧ w'.cell? ⟨b, off + k * 3 + 1, none⟩ = some (.int .i64 l[k].tm) ∧ w'.cell? ⟨b, off + k * 3 + 2, none⟩ = some hv := by
  obtain ⟨ao, cap, b, off, hv, h1, h2, h3⟩ := h.openS
  refine ⟨ao, cap, b, off, hv, h1, h2, fun w' hw k hk => ?_⟩
  obtain ⟨g1, g2, g2', cs, g3, g4⟩ := h3 w' hw k hk
  obtain ⟨hv, rfl, g5, g6⟩ := tEnt_is g4
  have g3' : ∀ j, j < 3 → w'.cell? ⟨b, off + k * 3 + j, none⟩ = (eCells l[k] hv)[j]? := g3
  exact ⟨g1, g2, g2', g5, hv, g6, g3' 0 (by decide), g3' 1 (by decide), g3' 2 (by decide)⟩
/-- the place of a charge with a key, or -1 -/
def fndI (l : List Chg) (s : ByteArray) : Int := match l.findIdx? (fun x => decide (x.key = s)) with
  | some i => (i : Int)
  | none => -1
theorem fnd_some {l : List Chg} {s : ByteArray} {k : Nat} (hk : k < l.length) (h : l[k].key = s) (hb : ∀ j (hj : j < l.length), j < k → l[j].key ≠ s) : fndI l s = k := by
  have : l.findIdx? (fun x => decide (x.key = s)) = some k := by
    rw [List.findIdx?_eq_some_iff_getElem]
    exact ⟨hk, by simpa using h, fun j hj => by simpa using hb j (by omega) hj⟩
  unfold fndI
  rw [this]
theorem fnd_none {l : List Chg} {s : ByteArray} (h : ∀ j (hj : j < l.length), l[j].key ≠ s) : fndI l s = -1 := by
  have : l.findIdx? (fun x => decide (x.key = s)) = none := by
    rw [List.findIdx?_eq_none_iff]
    intro x hx
    obtain ⟨j, hj, rfl⟩ := List.getElem_of_mem hx
    simpa using h j hj
  unfold fndI
  rw [this]
end Go.Tw.Po
namespace Go.Proofs.YtifcelebfagjbaaGreatDoor
open Go.RowKit Go.Tw Go.Tw.Ord Go.Tw.Po Go.Sort
theorem find1_any (x : Chg) (v : Value) (id : ByteArray) (b : Nat) (w : World) (hb : b < w.heap.size) (hc : w.cell? ⟨b, 0, none⟩ = some (.string id)) :
    Calls Tryz.prog 84 #[.agg #[.string x.key, .string x.veh, .string x.sys, .int .i64 x.cls, .int .i64 x.tm, v, .int .i64 x.c], .pointer (some ⟨b, 0, none⟩)] w
      fun e w' => e = .returned (.bool (decide (x.key = id))) ∧ Below w.heap.size w w' := by
  go_enter Tryz.func84, Tryz.ntmps84
  go_wp2
  go_ret
  refine ⟨ret_bool ?_, bl_alloc (Below.refl _ _) _⟩
  rw [eq_str]
set_option maxHeartbeats 1000000 in
theorem index37_any (l : List Chg) (v : Value) (id : ByteArray) (b : Nat) (w : World) (h : SlIs (tChg 140) (· < w.heap.size) w v l) (hb : b < w.heap.size) (hc : w.cell? ⟨b, 0, none⟩ = some (.string id)) :
    Calls Tryz.prog 83 #[v, .func (.func 84) #[] #[.pointer (some ⟨b, 0, none⟩)]] w
      fun e w' => e = .returned (.int .i64 (fndI l id)) ∧ Below w.heap.size w w' := by
  obtain ⟨ao, cap, bi, off, rfl, hl, hm, ho⟩ := chg_open h
  unfold maxLen at hm
  have HO := Lib.hid ho
  clear h ho
  go_enter Tryz.func83, Tryz.ntmps83
  go_wp2
  go_loopg [8] l.length (fun g i wr => ∃ k : Nat, k + g = l.length ∧ i = .int .i64 k ∧ Hid (∀ j (hj : j < l.length), j < k → l[j].key ≠ id) ∧ Below w.heap.size w wr)
  case atStart => exact ⟨0, by omega, rfl, Lib.hid (fun j _ h => by omega), Below.refl _ _⟩
  case round =>
    obtain ⟨k, hk, rfl, HT, hb1⟩ := hrel
    have HB := Lib.hid hb1
    by_cases hlt : k < l.length
    · obtain ⟨rfl, -, hbi, -, hv, hsl, c0, c1, c2, c3, c4, c5, c6⟩ := HO.out wr (.of_below hb1) k hlt
      obtain ⟨hva, hvc, _, _, rfl, -⟩ := hsl
      have hs1 := hb1.size
      have hc2 : wr.cell? ⟨b, 0, none⟩ = some (.string id) := (hb1.cell (p := ⟨b, 0, none⟩) hb).trans hc
      have hb2 : b < wr.heap.size := by omega
      have k0 : (0 : Int) ≤ (k : Int) := by omega
      have k1 : (k : Int) < (l.length : Int) := by omega
      have HG1 := Lib.hid (show ∀ j (hj : j < l.length), j = k → l[j] = l[k] by rintro j hj rfl; rfl)
      generalize l[k] = y at *
      obtain ⟨q, hq⟩ : ∃ q, decide (y.key = id) = q := ⟨_, rfl⟩
      have HQ := Lib.hid hq
      have HI := Lib.hid (find1_any y (.slice hva y.ls.length hvc) id b wr hb2 hc2)
      rw [hq] at HI
      clear hb1 hq hc2 hb2
      cases q with
      | true =>
        go_wp2_with (go_at_call 84; refine HI.out.mono ?_; rintro e w2 ⟨rfl, hbb⟩)
        go_ret
        exact ⟨ret_int (fnd_some hlt (by rw [HG1.out k hlt rfl]; simpa using HQ.out) HT.out), bl_trans HB.out hbb⟩
      | false =>
        go_wp2_with (go_at_call 84; refine HI.out.mono ?_; rintro e w2 ⟨rfl, hbb⟩)
        go_roundg (l.length - (k + 1))
        case measure => omega
        case rel => exact ⟨k + 1, by omega, by go_num, Lib.hid (fun j hj h => by
          by_cases e : j = k
          · rw [HG1.out j hj e]; simpa using HQ.out
          · exact HT.out j hj (by omega)), bl_trans HB.out (by assumption)⟩
    · go_wp2
      go_ret
      exact ⟨ret_int (fnd_none fun j hj => HT.out j hj (by omega)), HB.out⟩
set_option maxHeartbeats 1000000 in
theorem find_any (l : List Chg) (vl v : Value) (id : ByteArray) (w : World) (h : SlIs (tChg 140) (· < w.heap.size) w v l) :
    Calls Tryz.prog 47 #[.agg #[vl, v], .string id] w fun e w' => e = .returned (.int .i64 (fndI l id)) ∧ Below w.heap.size w w' := by
  have b1 := bl_alloc (bl_alloc (Below.refl w.heap.size w) (.cells #[vl, v] 70)) (.cells #[.string id] 9)
  have HH := Lib.hid (h.step b1)
  have HB1 := Lib.hid b1
  obtain ⟨ao, cap, _, _, rfl, -⟩ := h
  clear b1
  go_enter Tryz.func47, Tryz.ntmps47
  go_wp2_with (fail)
  refine (index37_any l _ id (w.heap.size + 1) _ HH.out (by simp) (by simp)).mono ?_
  rintro e w2 ⟨rfl, hb⟩
  go_wp2
  go_ret
  exact ⟨rfl, bl_trans HB1.out hb⟩
end Go.Proofs.YtifcelebfagjbaaGreatDoor
/-
  Layer 37 (post): Posted; the reference's Find, Posted.
-/
namespace Go.Tw.Po
open Go.RowKit Go.Tw Go.Sort Go.Tw.Ord
def zeroC : Chg := ⟨ByteArray.empty, ByteArray.empty, ByteArray.empty, 0, 0, [], 0⟩
/-- the charge with a key -/
def fndC (l : List Chg) (s : ByteArray) : Option Chg := l.find? fun x => decide (x.key = s)
def postedC (l : List Chg) (s : ByteArray) : Int := ((fndC l s).getD zeroC).c
theorem fndC_some {l : List Chg} {s : ByteArray} {k : Nat} (hk : k < l.length) (h : l[k].key = s) (hb : ∀ j (hj : j < l.length), j < k → l[j].key ≠ s) : fndC l s = some l[k] := by
  unfold fndC
  rw [List.find?_eq_some_iff_getElem]
  exact ⟨by simpa using h, k, hk, rfl, fun j hj => by simpa using hb j (by omega) hj⟩
theorem fndC_none {l : List Chg} {s : ByteArray} (h : ∀ j (hj : j < l.length), l[j].key ≠ s) : fndC l s = none := by
  unfold fndC
  rw [List.find?_eq_none]
  intro x hx
  obtain ⟨j, hj, rfl⟩ := List.getElem_of_mem hx
  simpa using h j hj
theorem fnd_two (l : List Chg) (s : ByteArray) : (fndI l s = -1 ∧ fndC l s = none ∧ ∀ j (hj : j < l.length), l[j].key ≠ s) ∨ ∃ (k : Nat) (hk : k < l.length), fndI l s = k ∧ fndC l s = some l[k] ∧ l[k].key = s ∧ ∀ j (hj : j < l.length), j < k → l[j].key ≠ s := by
  cases h : l.findIdx? (fun x => decide (x.key = s)) with
  | none =>
    rw [List.findIdx?_eq_none_iff] at h
    have h' : ∀ j (hj : j < l.length), l[j].key ≠ s := fun j hj => by simpa using h _ (List.getElem_mem hj)
    exact .inl ⟨fnd_none h', fndC_none h', h'⟩
  | some k =>
    obtain ⟨hk, h1, h2⟩ := List.findIdx?_eq_some_iff_getElem.1 h
    have h3 : l[k].key = s := by simpa using h1
    have h4 : ∀ j (hj : j < l.length), j < k → l[j].key ≠ s := fun j hj hjk => by simpa using h2 j hjk
    exact .inr ⟨k, hk, fnd_some hk h3 h4, fndC_some hk h3 h4, h3, h4⟩
end Go.Tw.Po
namespace Go.Proofs.YtifcelebfagjbaaGreatDoor
open Go.RowKit Go.Tw Go.Tw.Ord Go.Tw.Po Go.Sort
set_option maxHeartbeats 1000000 in
theorem posted_any (l : List Chg) (al : Option Addr) (nl cl : Nat) (v : Value) (id : ByteArray) (w : World) (h : SlIs (tChg 140) (· < w.heap.size) w v l) :
    Calls Tryz.prog 19 #[.agg #[.slice al nl cl, v], .string id] w fun e w' => e = .returned (.int .i64 (postedC l id)) ∧ Below w.heap.size w w' := by
  have b1 := bl_alloc (Below.refl w.heap.size w) (.cells #[.slice al nl cl, v] 70)
  have HF := Lib.hid (find_any l (.slice al nl cl) v id _ (h.step b1))
  have HB1 := Lib.hid b1
  obtain ⟨ao, cap, b, off, rfl, h1, h2, ho⟩ := chg_open h
  unfold maxLen at h2
  have HO := Lib.hid ho
  clear b1 ho h
  rcases fnd_two l id with ⟨f1, f2, -⟩ | ⟨k, hk, f1, f2, -, -⟩
  · rw [f1] at HF
    have HE := Lib.hid (show postedC l id = 0 by unfold postedC; rw [f2]; rfl)
    clear f1 f2
    go_enter Tryz.func19, Tryz.ntmps19
    go_wp2_with (fail)
    refine HF.out.mono ?_
    rintro e w2 ⟨rfl, hb⟩
    have HB2 := Lib.hid (bl_trans HB1.out hb)
    clear hb HB1 HF
    go_wp2_with (fail)
    go_ret
    exact ⟨ret_int HE.out, HB2.out⟩
  · rw [f1] at HF
    have HE := Lib.hid (show postedC l id = l[k].c by unfold postedC; rw [f2]; rfl)
    have k0 : (0 : Int) ≤ (k : Int) := by omega
    have k1 : (k : Int) < (l.length : Int) := by omega
    clear f1 f2
    go_enter Tryz.func19, Tryz.ntmps19
    go_wp2_with (fail)
    refine HF.out.mono ?_
    rintro e w2 ⟨rfl, hb⟩
    have n1 := (hb.block w.heap.size (by simp)).trans (heap_alloc_new _ _)
    obtain ⟨c0, c1, -⟩ := blk2 n1
    have HB2 := Lib.hid (bl_trans HB1.out hb)
    clear n1 hb HB1 HF
    obtain ⟨rfl, -, hbi, -, hv, -, d0, d1, d2, d3, d4, d5, d6⟩ := HO.out w2 (.of_below HB2.out) k hk
    clear HO
    go_wp2
    go_ret
    exact ⟨ret_int HE.out, HB2.out⟩
end Go.Proofs.YtifcelebfagjbaaGreatDoor
