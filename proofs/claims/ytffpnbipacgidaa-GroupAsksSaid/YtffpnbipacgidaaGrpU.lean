/-
  Layer 14 (group): Span.
-/
import Derived.Test.YtffpnbipacgidaaGrpQ
namespace Go.Proofs.Ytffpnbipacgidaa
open Go.RowKit Go.Tw Go.Tw.Ord Go.Tw.Grp Go.Sort
def loS (z : Int) (l : List Seen) : Int := l.foldl (fun a s => min a s.tm) z
def hiS (z : Int) (l : List Seen) : Int := l.foldl (fun a s => max a s.tm) z
def spanC : List Seen → Int × Int
  | [] => (0, 0)
  | s :: l => if loS s.tm (s :: l) < 0 ∨ 68719476736 ≤ hiS s.tm (s :: l) then (0, 0) else (loS s.tm (s :: l), hiS s.tm (s :: l) + 1)
theorem loS_snoc (z : Int) (l : List Seen) (s : Seen) : loS z (l ++ [s]) = min (loS z l) s.tm := by simp [loS]
theorem hiS_snoc (z : Int) (l : List Seen) (s : Seen) : hiS z (l ++ [s]) = max (hiS z l) s.tm := by simp [hiS]
theorem loS_ok : ∀ {l : List Seen} {z : Int}, i64ok z → (∀ s ∈ l, i64ok s.tm) → i64ok (loS z l)
  | [], _, h, _ => h
  | s :: l, z, h, hl => loS_ok (l := l) (z := min z s.tm) (by have := hl s (by simp); unfold i64ok at *; omega) (fun x hx => hl x (by simp [hx]))
theorem hiS_ok : ∀ {l : List Seen} {z : Int}, i64ok z → (∀ s ∈ l, i64ok s.tm) → i64ok (hiS z l)
  | [], _, h, _ => h
  | s :: l, z, h, hl => hiS_ok (l := l) (z := max z s.tm) (by have := hl s (by simp); unfold i64ok at *; omega) (fun x hx => hl x (by simp [hx]))
theorem spanC_pos {l : List Seen} (h : 0 < l.length) : spanC l = if loS l[0].tm l < 0 ∨ 68719476736 ≤ hiS l[0].tm l then ((0, 0) : Int × Int) else (loS l[0].tm l, hiS l[0].tm l + 1) := by
  cases l with
  | nil => simp at h
  | cons s l => rfl
theorem set2_row {W : World} {g : Nat} {t : TypeId} {a b : Value} (h : W.heap[g]? = some (.cells #[a, b] t (0, 0))) (p q : Value) : ((W.setCell ⟨g, 0, none⟩ p).setCell ⟨g, 1, none⟩ q).heap[g]? = some (.cells #[p, q] t (0, 0)) := by
  have h1 : (W.setCell ⟨g, 0, none⟩ p).heap[g]? = some (.cells #[p, b] t (0, 0)) := by
    obtain ⟨hlt, hk⟩ := Array.getElem?_eq_some_iff.1 h
    show (W.heap.modify g _)[g]? = _
    rw [Array.getElem?_eq_getElem (by rw [Array.size_modify]; exact hlt), Array.getElem_modify_self, hk]
    rfl
  generalize W.setCell ⟨g, 0, none⟩ p = V at h1 ⊢
  obtain ⟨hlt, hk⟩ := Array.getElem?_eq_some_iff.1 h1
  show (V.heap.modify g _)[g]? = _
  rw [Array.getElem?_eq_getElem (by rw [Array.size_modify]; exact hlt), Array.getElem_modify_self, hk]
  rfl
theorem cell_alloc_below {w w' : World} {A : Array Value} {t : TypeId} (hb : Below (w.alloc (.cells A t)).heap.size (w.alloc (.cells A t)) w') (j : Nat) {v : Value} (hv : A[j]? = some v) : w'.cell? ⟨w.heap.size, j, none⟩ = some v ∧ w'.frozen? ⟨w.heap.size, j, none⟩ = false := by
  have h1 := (hb.block w.heap.size (by simp)).trans (heap_alloc_new w (.cells A t))
  refine ⟨by rw [cell_of_row _ _ _ _ _ _ h1]; exact hv, ?_⟩
  simp [World.frozen?, h1]
set_option maxRecDepth 100000 in
set_option maxHeartbeats 4000000 in
theorem span_any (l : List Seen) (v : Value) (w : World) (h : SlIs tSeen (· < w.heap.size) w v l) :
    Calls Try.prog 24 #[v] w fun e w' => e = .returned (.agg #[.int .i64 (spanC l).1, .int .i64 (spanC l).2]) ∧ Below w.heap.size w w' := by
  obtain ⟨ao, cp, b, o, rfl, q1, q2, ho⟩ := seen_row h
  unfold maxLen at q2
  have HO := Lib.hid ho
  clear h ho
  rcases Nat.eq_zero_or_pos l.length with hz | hpos
  · obtain rfl : l = [] := List.eq_nil_of_length_eq_zero hz
    go_enter Try.func24, Try.ntmps24
    go_wp2_with (fail)
    exact bodyPost_ret (results_cell_row Try.results24 _ _ w.heap.size 46 _ (0, 0) _ rfl (heap_alloc_new _ _) Try.underlying46 rfl (by kernel_rfl)) rfl ⟨rfl, bl_alloc (Below.refl _ _) _⟩
  · have hnz : ¬ ((l.length : Int) = 0) := by omega
    have HSP := Lib.hid (spanC_pos hpos)
    have HB0 := Lib.hid (bl_alloc (Below.refl _ w) (.cells #[.int .i64 0, .int .i64 0] 46))
    obtain ⟨rfl, -, hbk0, hok0, hc0⟩ := HO.out _ (.of_below HB0.out) 0 hpos
    have z0 : (0 : Int) < (l.length : Int) := by omega
    have c7 := hc0 7 (by decide)
    have ht0 := hok0.tm
    generalize hs0 : l[0] = s0 at HSP c7 ht0
    have HT0 := Lib.hid ht0
    have e7 : (sCells s0)[7]? = some (.int .i64 s0.tm) := rfl
    rw [e7] at c7
    simp only [Nat.zero_mul, Nat.add_zero] at c7
    generalize s0.tm = z at HSP c7 HT0
    clear hc0 hok0 e7 ht0 hs0
    go_enter Try.func24, Try.ntmps24
    go_wp2_with (go_quiet (fail))
    go_loopg [3, 4, 21] l.length (fun gx lo hi i wr => ∃ (k : Nat) (x y : Int), k + gx = l.length ∧ i = .int .i64 k ∧ lo = .int .i64 x ∧ hi = .int .i64 y ∧ Hid (x = loS z (l.take k) ∧ y = hiS z (l.take k)) ∧ i64ok x ∧ i64ok y ∧ Below (w.alloc (.cells #[.int .i64 0, .int .i64 0] 46)).heap.size (w.alloc (.cells #[.int .i64 0, .int .i64 0] 46)) wr)
    case atStart => exact ⟨0, z, z, by omega, rfl, rfl, rfl, Lib.hid (by simp [loS, hiS]), HT0.out, HT0.out, bl_drewN (Below.refl _ _) _⟩
    case round =>
      obtain ⟨k, x, y, hk, rfl, rfl, rfl, HXY, hx, hy, hb⟩ := hrel
      have HB := Lib.hid hb
      have HX := Lib.hid hx
      have HY := Lib.hid hy
      by_cases hlt : k < l.length
      · obtain ⟨-, -, hbk, hok, hc⟩ := HO.out wr (.of_below (HB0.out.trans (hb.mono (by simp)))) k hlt
        have ld := load_seen (x := l[k]) Try.prog hc
        have k0 : (0 : Int) ≤ (k : Int) := by omega
        have k1 : (k : Int) < (l.length : Int) := by omega
        have HTL := Lib.hid (show loS z (l.take (k + 1)) = min (loS z (l.take k)) l[k].tm by rw [List.take_succ_eq_append_getElem hlt, loS_snoc])
        have HTH := Lib.hid (show hiS z (l.take (k + 1)) = max (hiS z (l.take k)) l[k].tm by rw [List.take_succ_eq_append_getElem hlt, hiS_snoc])
        generalize l[k] = s at ld hok HTL HTH
        obtain ⟨A, hA⟩ : ∃ A, (sCells s).toArray = A := ⟨_, rfl⟩
        rw [hA] at ld
        have hs : A.size = 11 := by rw [← hA]; rfl
        have h1c := oneA hA
        have hbx : SBox (wr.alloc (.cells A 31)) wr.heap.size s := by rw [← hA]; exact heap_alloc_new _ _
        have c77 := hbx.cell 7 (v := .int .i64 s.tm) rfl
        have HOK := Lib.hid hok.tm
        generalize s.tm = t at c77 HOK HTL HTH
        clear hA hc hbx hb hok hbk hx hy c7
        go_wp2_with (first
          | (refine wpList_loadA _ rfl 31 rfl Try.isAgg31 Try.sizeOf31 rfl (by with_reducible assumption) ?_)
          | (refine wpList_newA 6 rfl (.tmp 24) rfl rfl 31 rfl rfl rfl Try.sizeOf31 Try.zeroValue31 rfl (by with_reducible assumption) (by with_reducible assumption) (by simp [Act.put]) rfl ?_)
          | go_quiet (fail))
        go_roundg (l.length - (k + 1))
        case measure => omega
        case rel => exact ⟨k + 1, _, _, by omega, by go_num, rfl, rfl, Lib.hid (by rw [HTL.out, HTH.out, HXY.out.1, HXY.out.2]; exact ⟨rfl, rfl⟩), by have := HX.out; have := HOK.out; unfold i64ok at *; omega, by have := HY.out; have := HOK.out; unfold i64ok at *; omega, bl_drewN (bl_alloc HB.out _) _⟩
      · obtain rfl : k = l.length := by omega
        have hkl : ¬ (l.length : Int) < (l.length : Int) := by omega
        rw [List.take_length] at HXY
        have c0 := (cell_alloc_below hb 0 (v := .int .i64 0) rfl)
        have c1 := (cell_alloc_below hb 1 (v := .int .i64 0) rfl)
        obtain ⟨c0, f0⟩ := c0
        obtain ⟨c1, f1⟩ := c1
        clear hlt hk hb c7 hx hy
        have hfin : ∀ (W : World) (p q : Int), W.heap[w.heap.size]? = some (.cells #[.int .i64 p, .int .i64 q] 46 (0, 0)) → ∀ tmps : Array Value, tmps.getD 2 undef = .pointer (some ⟨w.heap.size, 0, none⟩) → (results Try.f24 tmps).run Try.prog W = .ok (.agg #[.int .i64 p, .int .i64 q]) W := fun W p q hW tmps ht =>
          results_cell_row Try.results24 tmps W w.heap.size 46 _ (0, 0) _ ht hW Try.underlying46 rfl (by kernel_rfl)
        have hsw := HB.out.size
        have HST := Lib.hid (show ∀ p q : Int, ((wr.setCell ⟨w.heap.size, 0, none⟩ (.int .i64 p)).setCell ⟨w.heap.size, 1, none⟩ (.int .i64 q)).heap[w.heap.size]? = some (.cells #[.int .i64 p, .int .i64 q] 46 (0, 0)) from fun p q => by
          have h1 := (HB.out.block w.heap.size (by simp)).trans (heap_alloc_new w (.cells #[.int .i64 0, .int .i64 0] 46))
          exact set2_row h1 _ _)
        have HFIN := Lib.hid hfin
        have HSW := Lib.hid hsw
        clear hfin hsw
        by_cases hx0 : x < 0
        · have hb0 : decide (x < 0) = true := by simpa using hx0
          go_wp2_with (fail)
          refine bodyPost_ret (HFIN.out _ _ _ (HST.out _ _) _ rfl) rfl ⟨?_, bl_set (bl_set (HB0.out.trans (HB.out.mono (by simp))) _ (Nat.le_refl _)) _ (Nat.le_refl _)⟩
          rw [HSP.out, ← HXY.out.1, ← HXY.out.2]
          simp only [hx0, true_or, if_true]
        · by_cases hy0 : y ≥ 68719476736
          · go_wp2_with (fail)
            refine bodyPost_ret (HFIN.out _ _ _ (HST.out _ _) _ rfl) rfl ⟨?_, bl_set (bl_set (HB0.out.trans (HB.out.mono (by simp))) _ (Nat.le_refl _)) _ (Nat.le_refl _)⟩
            rw [HSP.out, ← HXY.out.1, ← HXY.out.2]
            rw [if_pos (by omega)]
          · have hz1 : wrap64 (y + 1) = y + 1 := by have := HY.out; unfold wrap64; unfold i64ok at this; omega
            go_wp2_with (fail)
            refine bodyPost_ret (HFIN.out _ _ _ (HST.out _ _) _ rfl) rfl ⟨?_, bl_set (bl_set (HB0.out.trans (HB.out.mono (by simp))) _ (Nat.le_refl _)) _ (Nat.le_refl _)⟩
            rw [HSP.out, ← HXY.out.1, ← HXY.out.2]
            rw [if_neg (by omega)]
end Go.Proofs.Ytffpnbipacgidaa
