/-
  Layer 40 (retain): the walks: searches; copies of images.
-/
import Derived.Test.YtcociikmhfopnaaRetainWalk
import Derived.Lib.LazyBuf
import Derived.Test.YtcociikmhfopnaaDeep
namespace Go.Proofs.Ytcociikmhfopnaa
open Go.RowKit Go.Tw Go.Tw.Retain

theorem slStr : SlT Try.prog 23 9 1 16 := SlT.of (z := .string ByteArray.empty) Try.underlying23 (by kernel_rfl) rfl (by decide)
theorem slImg : SlT Try.prog 36 26 5 64 := SlT.of (z := .agg #[.string ByteArray.empty, .int .i64 0, .int .i64 0, .slice none 0 0, .int .u64 0]) Try.underlying36 (by kernel_rfl) rfl (by decide)

set_option maxHeartbeats 400000 in
theorem sIndex_any (l : List ByteArray) (v : Value) (s : ByteArray) (w : World) (h : SlIs tStr (· < w.heap.size) w v l) :
    Calls Try.prog 39 #[v, .string s] w fun e w' => e = .returned (.int .i64 (idxP (isStr s) 0 l)) ∧ w = w' := by
  obtain ⟨ao, cap, b, off, rfl, hl, hm, ho⟩ := strs_open h
  unfold maxLen at hm
  clear h
  go_enter Try.func39, Try.ntmps39
  go_wp2
  go_loopg [8] l.length (fun g i wr => ∃ k : Nat, k + g = l.length ∧ i = .int .i64 k ∧ idxP (isStr s) 0 l = idxP (isStr s) k (l.drop k) ∧ w = wr)
  case atStart => exact ⟨0, by omega, rfl, rfl, rfl⟩
  case round =>
    obtain ⟨k, hk, rfl, he, rfl⟩ := hrel
    have HE := Lib.hid he; clear he
    by_cases hlt : k < l.length
    · obtain ⟨rfl, -, hb, c0, -⟩ := ho w (SameOn.refl _ _) k hlt
      clear ho
      have hd := idx_drop (p := isStr s) hlt
      have HD := Lib.hid hd; clear hd
      by_cases hq : l[k] = s
      · have hq' : (s.toList == l[k].toList) = true := by rw [str_eq]; simp [hq]
        have HQ := Lib.hid hq; clear hq
        go_wp2
        go_ret
        exact ⟨ret_int (by rw [HE.out, HD.out, if_pos (by simp [isStr, HQ.out])]), rfl⟩
      · have hq' : (s.toList == l[k].toList) = false := by rw [str_eq]; simp; first | exact hq | (intro h; exact hq h.symm)
        have HQ := Lib.hid hq; clear hq
        go_wp2
        go_roundg (l.length - (k + 1))
        case measure => omega
        case rel => exact ⟨k + 1, by omega, by go_num, by rw [HE.out, HD.out, if_neg (by simp [isStr, HQ.out])], rfl⟩
    · clear ho
      go_wp2
      go_ret
      exact ⟨ret_int (by rw [HE.out, idx_end (by omega)]), rfl⟩
set_option maxHeartbeats 400000 in
theorem has_any (l : List ByteArray) (v : Value) (s : ByteArray) (w : World) (h : SlIs tStr (· < w.heap.size) w v l) :
    Calls Try.prog 37 #[v, .string s] w fun e w' => e = .returned (.int .i64 (idxP (isStr s) 0 l)) ∧ w = w' := by
  obtain ⟨ao, cap, b, off, rfl, hl, hm, ho⟩ := strs_open h
  unfold maxLen at hm
  clear h
  go_enter Try.func37, Try.ntmps37
  go_wp2
  go_loopg [5] l.length (fun g i wr => ∃ k : Nat, k + g = l.length ∧ i = .int .i64 k ∧ idxP (isStr s) 0 l = idxP (isStr s) k (l.drop k) ∧ w = wr)
  case atStart => exact ⟨0, by omega, rfl, rfl, rfl⟩
  case round =>
    obtain ⟨k, hk, rfl, he, rfl⟩ := hrel
    have HE := Lib.hid he; clear he
    by_cases hlt : k < l.length
    · obtain ⟨rfl, -, hb, c0, -⟩ := ho w (SameOn.refl _ _) k hlt
      clear ho
      have hd := idx_drop (p := isStr s) hlt
      have HD := Lib.hid hd; clear hd
      by_cases hq : l[k] = s
      · have hq' : (l[k].toList == s.toList) = true := by rw [str_eq]; simp [hq]
        have HQ := Lib.hid hq; clear hq
        go_wp2
        go_ret
        exact ⟨ret_int (by rw [HE.out, HD.out, if_pos (by simp [isStr, HQ.out])]), rfl⟩
      · have hq' : (l[k].toList == s.toList) = false := by rw [str_eq]; simp; first | exact hq | (intro h; exact hq h.symm)
        have HQ := Lib.hid hq; clear hq
        go_wp2
        go_roundg (l.length - (k + 1))
        case measure => omega
        case rel => exact ⟨k + 1, by omega, by go_num, by rw [HE.out, HD.out, if_neg (by simp [isStr, HQ.out])], rfl⟩
    · clear ho
      go_wp2
      go_ret
      exact ⟨ret_int (by rw [HE.out, idx_end (by omega)]), rfl⟩

theorem sContains_any (l : List ByteArray) (v : Value) (s : ByteArray) (w : World) (h : SlIs tStr (· < w.heap.size) w v l) :
    Calls Try.prog 33 #[v, .string s] w fun e w' => e = .returned (.bool (decide (0 ≤ idxP (isStr s) 0 l))) ∧ w = w' := by
  go_enter Try.func33, Try.ntmps33
  go_wp2_with (fail)
  refine (sIndex_any _ _ _ _ h).mono ?_
  rintro e w' ⟨rfl, rfl⟩
  go_wp2
  go_ret
  exact ⟨rfl, rfl⟩

set_option maxHeartbeats 400000 in
theorem sClone_new (l : List ByteArray) (v : Value) (w : World) (h : SlIs tStr (· < w.heap.size) w v l) (hlen : l.length ≤ 1000000) :
    Calls Try.prog 41 #[v] w fun e w' => ∃ v', e = .returned v' ∧ NewL tStr 9 w.heap.size w' v' l ∧ Below w.heap.size w w' := by
  have h' := h
  obtain ⟨ao, cap, b, off, hv, hl, hm, h3, ho⟩ := h
  subst hv
  have heq := fun w => Lib.run_eql_slice_nil (P := Try.prog) w 23 9 ao l.length cap 0 0 Try.underlying23
  cases ao with
  | none =>
    have hc := h3 rfl
    subst hc
    obtain rfl : l = [] := List.eq_nil_of_length_eq_zero (by omega)
    simp only [List.length_nil] at heq
    clear h3 ho h'
    go_enter Try.func41, Try.ntmps41
    go_wp2
    go_ret
    exact ⟨_, rfl, NewL.nil, Below.refl _ _⟩
  | some a =>
    have HH := Lib.hid h'
    clear h3 ho h'
    have o0 : OwnSl tStr 9 w.heap.size (w.alloc (.cells #[] 9)) (.slice (some ⟨w.heap.size, 0, none⟩) 0 0) [] := OwnSl.lit (css := []) rfl trivial (Nat.le_refl _) (by decide)
    have h2 : SlIs tStr (· < w.heap.size) (w.alloc (.cells #[] 9)) (.slice (some a) l.length cap) l := HH.out.keep (fun _ h => h) (fun k hk => Below.heap_alloc _ _ _ hk)
    have H2 := Lib.hid h2
    have HO := Lib.hid o0
    have HL := Lib.hid hlen
    clear o0 h2
    go_enter Try.func41, Try.ntmps41
    go_wp2_with (at_builtin; refine wpList_append_old (.tmp 5) (.tmp 6) rfl 23 rfl slStr rfl HO.out rfl H2.out (small_bytes (k := 1000000) (by simpa using HL.out) (by decide)) (Nat.le_trans (by simpa using HL.out) (show 1000000 ≤ maxLen by decide)) (by simp) ?_; intro v' w1 ho1 hg1 hb1)
    go_ret
    exact ⟨_, rfl, NewL.ofOwn ownStr ho1 (Nat.le_refl _), (bl_alloc (Below.refl _ _) _).trans hb1⟩
theorem sClone_any (l : List ByteArray) (v : Value) (w : World) (h : SlIs tStr (· < w.heap.size) w v l) (hlen : l.length ≤ 1000000) :
    Calls Try.prog 41 #[v] w fun e w' => ∃ v', e = .returned v' ∧ SlIs tStr (fun k => w.heap.size ≤ k ∧ k < w'.heap.size) w' v' l ∧ Below w.heap.size w w' :=
  (sClone_new l v w h hlen).mono fun _ _ ⟨v', h1, h2, h3⟩ => ⟨v', h1, h2.sl, h3⟩

theorem ret_agg {fn : Func} {a : Act} {w : World} {P : Program} {R : Ending → World → Prop} {v : Value} (hr : (results fn a.tmps).run P w = .ok v w) (hd : a.defers = []) (h : R (.returned v) w) : bodyPost P fn R .ret a w := bodyPost_ret hr hd h

set_option maxHeartbeats 400000 in
theorem clone_new (im : Img) (h : Value) (w : World) (hi : ImgOk (· < w.heap.size) w im h) (hlen : im.hold.length ≤ 1000000) :
    Calls Try.prog 29 #[.agg #[.string im.id, .int .i64 im.t, .int .i64 im.p, h, .int .u64 im.dg]] w
      fun e w' => ∃ h', e = .returned (.agg #[.string im.id, .int .i64 im.t, .int .i64 im.p, h', .int .u64 im.dg]) ∧ NewL tStr 9 w.heap.size w' h' im.hold ∧ Below w.heap.size w w' := by
  obtain ⟨ha, hcp, bb, boff, rfl, hn1, hn2, -⟩ := strs_open hi.hold
  let W1 := (w.alloc (.cells #[.string im.id, .int .i64 im.t, .int .i64 im.p, .slice ha im.hold.length hcp, .int .u64 im.dg] 26)).alloc (.cells #[.string ByteArray.empty, .int .i64 0, .int .i64 0, .slice none 0 0, .int .u64 0] 26)
  have b1 : Below w.heap.size w W1 := bl_alloc (bl_alloc (Below.refl _ _) _) _
  go_enter Try.func29, Try.ntmps29
  go_wp2_with (fail)
  refine (sClone_new im.hold _ _ (hi.hold.step b1) hlen).mono ?_
  rintro e w2 ⟨h', rfl, hs, hb2⟩
  obtain ⟨ao', cap', rfl, -⟩ := hs.form
  have hs' := hs
  clear hs
  have hsz : W1.heap.size = w.heap.size + 2 := by simp [W1]
  have hz2 := hb2.size
  have n0 : w2.heap[w.heap.size]? = _ := (hb2.block _ (by omega)).trans (heap_alloc2_old w _ _)
  have n1 : w2.heap[w.heap.size + 1]? = _ := (hb2.block _ (by omega)).trans (heap_alloc2_new w _ _)
  have l0 : w.heap.size < w2.heap.size := by omega
  have l1 : w.heap.size + 1 < w2.heap.size := by omega
  obtain ⟨c0, c1, c2, c3, c4, cf⟩ := blk5 n0
  obtain ⟨d0, d1, d2, d3, d4, df⟩ := blk5 n1
  rw [hsz] at hs'
  have HS := Lib.hid hs'
  have b2 := bl_trans b1 hb2
  have HI := Lib.hid (show im.id.size ≤ maxLen ∧ i64ok im.t ∧ i64ok im.p ∧ 0 ≤ im.dg ∧ im.dg ≤ 18446744073709551615 from ⟨hi.id, hi.t, hi.p, hi.dg⟩)
  clear n0 n1 hs' hsz hz2 hn1 hn2 hi b1 hb2
  clear W1
  go_wp2
  refine bodyPost_ret (v := .agg #[.string im.id, .int .i64 im.t, .int .i64 im.p, .slice ao' im.hold.length cap', .int .u64 im.dg]) (by simp [results, Try.results29, go_sem, d0, d1, d2, d3, d4]) rfl ⟨_, rfl, ?_, ?_⟩
  · refine (HS.out.same ?_).mono (by omega)
    (repeat (first | (with_reducible exact SameOn.refl _ _) | (with_reducible exact SameOn.refl _ _) | ((with_reducible refine SameOn.set ?_ ?_ _); rotate_left; focus (first | (simp; done) | (simp; omega))) | (with_reducible apply SameOn.drewN)))
  · (repeat (first | (with_reducible exact b2) | (with_reducible apply bl_drewN) | (with_reducible apply bl_alloc) | ((with_reducible refine bl_set ?_ _ ?_); rotate_left; focus (first | exact Nat.le_refl _ | (simp; done) | (simp; omega)))))
theorem imgOk_of {S : Nat → Prop} {w0 : Nat} {w w' : World} {im : Img} {h h' : Value} (hi : ImgOk S w im h) (hn : NewL tStr 9 w0 w' h' im.hold) : ImgOk (fun k => w0 ≤ k ∧ k < w'.heap.size) w' im h' := ⟨hi.id, hi.t, hi.p, hn.sl, hi.dg⟩
theorem clone_any (im : Img) (h : Value) (w : World) (hi : ImgOk (· < w.heap.size) w im h) (hlen : im.hold.length ≤ 1000000) :
    Calls Try.prog 29 #[.agg #[.string im.id, .int .i64 im.t, .int .i64 im.p, h, .int .u64 im.dg]] w
      fun e w' => ∃ h', e = .returned (.agg #[.string im.id, .int .i64 im.t, .int .i64 im.p, h', .int .u64 im.dg]) ∧ ImgOk (fun k => w.heap.size ≤ k ∧ k < w'.heap.size) w' im h' ∧ Below w.heap.size w w' :=
  (clone_new im h w hi hlen).mono fun _ _ ⟨h', h1, h2, h3⟩ => ⟨h', h1, imgOk_of hi h2, h3⟩
end Go.Proofs.Ytcociikmhfopnaa
