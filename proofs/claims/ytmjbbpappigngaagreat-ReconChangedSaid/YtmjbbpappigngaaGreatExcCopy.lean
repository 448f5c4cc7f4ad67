/-
  Layer 43 (exchange): the walks of the copies of records and files.
-/
import Derived.Test.YtmjbbpappigngaaGreatExcChk
import Derived.Lib.LazyBuf
namespace Go.Proofs.YtmjbbpappigngaaGreat
open Go.RowKit Go.Tw Go.Tw.Exc
theorem slRec : SlT Tryz.prog 27 49 5 48 := SlT.of (z := .agg #[.int .i64 0, .string ByteArray.empty, .int .i64 0, .int .i64 0, .int .i64 0]) Tryz.underlying27 (by kernel_rfl) rfl (by decide)
theorem slFil : SlT Tryz.prog 26 45 4 64 := SlT.of (z := .agg #[.string ByteArray.empty, .string ByteArray.empty, .int .i64 0, .slice none 0 0]) Tryz.underlying26 (by kernel_rfl) rfl (by decide)
theorem flatRec : tRec.Flat := fun h => by obtain ⟨rfl, h1⟩ := tRec_is h; exact tRec_mk h1
set_option maxHeartbeats 400000 in
theorem rClone_new (l : List Rec) (v : Value) (w : World) (h : SlIs tRec (· < w.heap.size) w v l) (hlen : l.length ≤ 1000000) :
    Calls Tryz.prog 73 #[v] w fun e w' => ∃ v', e = .returned v' ∧ NewL tRec 49 w.heap.size w' v' l ∧ Below w.heap.size w w' := by
  have h' := h
  obtain ⟨ao, cap, b, off, hv, hl, hm, h3, ho⟩ := h
  subst hv
  have heq := fun w => Lib.run_eql_slice_nil (P := Tryz.prog) w 27 49 ao l.length cap 0 0 Tryz.underlying27
  cases ao with
  | none =>
    have hc := h3 rfl
    subst hc
    obtain rfl : l = [] := List.eq_nil_of_length_eq_zero (by omega)
    simp only [List.length_nil] at heq
    clear h3 ho h'
    go_enter Tryz.func73, Tryz.ntmps73
    go_wp2
    go_ret
    exact ⟨_, rfl, NewL.nil, Below.refl _ _⟩
  | some a =>
    have HH := Lib.hid h'
    clear h3 ho h'
    have o0 : OwnSl tRec 49 w.heap.size (w.alloc (.cells #[] 49)) (.slice (some ⟨w.heap.size, 0, none⟩) 0 0) [] := OwnSl.lit (css := []) rfl trivial (Nat.le_refl _) (by decide)
    have h2 : SlIs tRec (· < w.heap.size) (w.alloc (.cells #[] 49)) (.slice (some a) l.length cap) l := HH.out.keep (fun _ h => h) (fun k hk => Below.heap_alloc _ _ _ hk)
    have H2 := Lib.hid h2
    have HO := Lib.hid o0
    have HL := Lib.hid hlen
    clear o0 h2
    go_enter Tryz.func73, Tryz.ntmps73
    go_wp2_with (at_builtin; refine wpList_append_old (.tmp 5) (.tmp 6) rfl 27 rfl slRec rfl HO.out rfl H2.out (small_bytes (k := 1000000) (by simpa using HL.out) (by decide)) (Nat.le_trans (by simpa using HL.out) (show 1000000 ≤ maxLen by decide)) (by simp) ?_; intro v' w1 ho1 hg1 hb1)
    go_ret
    exact ⟨_, rfl, NewL.ofOwn ownRec ho1 (Nat.le_refl _), (bl_alloc (Below.refl _ _) _).trans hb1⟩
set_option maxHeartbeats 400000 in
theorem records_new (l : List Rec) (v : Value) (w : World) (h : SlIs tRec (· < w.heap.size) w v l) (hlen : l.length ≤ 1000000) :
    Calls Tryz.prog 49 #[v] w fun e w' => ∃ v', e = .returned v' ∧ NewL tRec 49 w.heap.size w' v' l ∧ Below w.heap.size w w' := by
  have HH := Lib.hid h
  have HL := Lib.hid hlen
  obtain ⟨ao, cap, b, off, rfl, -⟩ := h
  clear hlen
  go_enter Tryz.func49, Tryz.ntmps49
  go_wp2_with (at_builtin; refine wpList_append_old (.tmp 4) (.tmp 5) rfl 27 rfl slRec rfl (OwnSl.nil _ _ w.heap.size _) rfl HH.out (small_bytes (k := 1000000) (by simpa using HL.out) (by decide)) (Nat.le_trans (by simpa using HL.out) (show 1000000 ≤ maxLen by decide)) (Nat.le_refl _) ?_; intro v' w1 ho1 hg1 hb1)
  go_ret
  exact ⟨_, rfl, NewL.ofOwn ownRec ho1 (Nat.le_refl _), hb1⟩
set_option maxHeartbeats 400000 in
theorem copied_new (f : Fil) (h : Value) (w : World) (hi : FilOk (· < w.heap.size) w f h) (hlen : f.rs.length ≤ 1000000) :
    Calls Tryz.prog 58 #[.agg #[.string f.fr, .string f.to, .int .i64 f.sq, h]] w
      fun e w' => ∃ h', e = .returned (.agg #[.string f.fr, .string f.to, .int .i64 f.sq, h']) ∧ NewL tRec 49 w.heap.size w' h' f.rs ∧ Below w.heap.size w w' := by
  obtain ⟨ha, hcp, bb, boff, rfl, hn1, hn2, -⟩ := rec_open hi.rs
  let W1 := (w.alloc (.cells #[.string f.fr, .string f.to, .int .i64 f.sq, .slice ha f.rs.length hcp] 45)).alloc (.cells #[.string ByteArray.empty, .string ByteArray.empty, .int .i64 0, .slice none 0 0] 45)
  have b1 : Below w.heap.size w W1 := bl_alloc (bl_alloc (Below.refl _ _) _) _
  go_enter Tryz.func58, Tryz.ntmps58
  go_wp2_with (fail)
  refine (rClone_new f.rs _ _ (hi.rs.step b1) hlen).mono ?_
  rintro e w2 ⟨h', rfl, hs, hb2⟩
  obtain ⟨ao', cap', rfl, -⟩ := hs.form
  have hs' := hs
  clear hs
  have hsz : W1.heap.size = w.heap.size + 2 := by simp [W1]
  have hz2 := hb2.size
  have n0 : w2.heap[w.heap.size]? = _ := (hb2.block _ (by omega)).trans (heap_alloc2_old w _ _)
  have n1 : w2.heap[w.heap.size + 1]? = _ := (hb2.block _ (by omega)).trans (heap_alloc2_new w _ _)
  have l0 : w.heap.size < w2.heap.size := by omega
  have l1 : w.heap.size + 1 < w2.heap.size := by omega
  obtain ⟨c0, c1, c2, c3, cf⟩ := blk4 n0
  obtain ⟨d0, d1, d2, d3, df⟩ := blk4 n1
  rw [hsz] at hs'
  have HS := Lib.hid hs'
  have b2 := bl_trans b1 hb2
  clear n0 n1 hs' hsz hz2 hn1 hn2 hi b1 hb2
  clear W1
  go_wp2
  refine bodyPost_ret (v := .agg #[.string f.fr, .string f.to, .int .i64 f.sq, .slice ao' f.rs.length cap']) (by simp [results, Tryz.results58, go_sem, d0, d1, d2, d3]) rfl ⟨_, rfl, ?_, ?_⟩
  · refine (HS.out.same ?_).mono (by omega)
    (repeat (first | (with_reducible exact SameOn.refl _ _) | (with_reducible exact SameOn.refl _ _) | ((with_reducible refine SameOn.set ?_ ?_ _); rotate_left; focus (first | (simp; done) | (simp; omega))) | (with_reducible apply SameOn.drewN)))
  · (repeat (first | (with_reducible exact b2) | (with_reducible apply bl_drewN) | (with_reducible apply bl_alloc) | ((with_reducible refine bl_set ?_ _ ?_); rotate_left; focus (first | exact Nat.le_refl _ | (simp; done) | (simp; omega)))))
theorem newFil {S : Nat → Prop} {w0 : World} {B : Nat} {w : World} {f : Fil} {h0 h : Value} (hi : FilOk S w0 f h0) (hn : NewL tRec 49 B w h f.rs) : New tFil B w (filCells f h) f := by
  obtain ⟨F, h1, h2, h3⟩ := hn
  exact ⟨F, tFil_own_mk h1 hi.fr hi.to hi.sq, h2, h3⟩
set_option maxRecDepth 100000 in
set_option maxHeartbeats 1000000 in
theorem files_any (l : List Fil) (v : Value) (w : World) (h : SlIs tFil (· < w.heap.size) w v l) (hbig : l.length ≤ 1000000) (hrs : ∀ f ∈ l, f.rs.length ≤ 1000000) :
    Calls Tryz.prog 52 #[v] w fun e w' => ∃ v', e = .returned v' ∧ NewL tFil 45 w.heap.size w' v' l ∧ Below w.heap.size w w' := by
  obtain ⟨ao, cap, bi, off, rfl, hl, hm, ho⟩ := fil_open h
  unfold maxLen at hm
  clear h
  go_enter Tryz.func52, Tryz.ntmps52
  go_wp2
  go_loopg [8, 3] l.length (fun g i v3 wr => ∃ k : Nat, k + g = l.length ∧ i = .int .i64 k ∧ NewL tFil 45 w.heap.size wr v3 (l.take k) ∧ Below w.heap.size w wr)
  case atStart => exact ⟨0, by omega, rfl, NewL.nil, Below.refl _ _⟩
  case round =>
    obtain ⟨k, hk, rfl, hn, hb1⟩ := hrel
    have HN := Lib.hid hn; clear hn
    by_cases hlt : k < l.length
    · obtain ⟨rfl, -, hbi, hv, hok, c0, c1, c2, c3⟩ := ho wr (.of_below hb1) k hlt
      clear ho
      obtain ⟨hva, hvc, _, _, rfl, -⟩ := hok.rs
      let W1 := wr.alloc (.cells #[.string l[k].fr, .string l[k].to, .int .i64 l[k].sq, .slice hva l[k].rs.length hvc] 45)
      have b1 : Below wr.heap.size wr W1 := bl_alloc (Below.refl _ _) _
      have okA : FilOk (· < W1.heap.size) W1 l[k] (.slice hva l[k].rs.length hvc) := hok.keep (fun j (hj : j < w.heap.size) => Nat.lt_of_lt_of_le (Nat.lt_of_lt_of_le hj hb1.size) b1.size) (.of_below (b1.mono hb1.size))
      have hll := hrs _ (List.getElem_mem hlt)
      have HB := Lib.hid b1
      have htl : (l.take k).length = k := by simp; omega
      have HT := Lib.hid htl; clear htl
      go_wp2_with (first
        | (go_at_call 58
           refine (copied_new l[k] _ _ okA hll).mono ?_
           rintro e w2 ⟨h', rfl, hi2, hb2⟩
           have hn2 : New tFil wr.heap.size w2 (filCells l[k] h') l[k] := newFil okA (hi2.mono b1.size)
           obtain ⟨ao2, cap2, rfl, -⟩ := hi2.form
           have b2 := HB.out.trans (hb2.mono HB.out.size)
           clear hi2 hb2)
        | (at_builtin
           refine wpList_append_new (.tmp 12) (.tmp 15) rfl 26 rfl slFil rfl HN.out b2 rfl hn2 (by rw [HT.out]; omega) (by rw [HT.out]; unfold maxLen; omega) hb1.size ?_
           intro v' w3 hn3 hb3))
      go_roundg (l.length - (k + 1))
      case measure => omega
      case rel => exact ⟨k + 1, by omega, by go_num, by rw [List.take_succ_eq_append_getElem hlt]; exact hn3, hb1.trans ((b2.mono hb1.size).trans hb3)⟩
    · clear ho
      go_wp2
      go_ret
      exact ⟨_, rfl, by have := HN.out; rwa [List.take_of_length_le (by omega)] at this, hb1⟩
set_option maxRecDepth 100000 in
set_option maxHeartbeats 1000000 in
theorem filesR_any (l : List Fil) (v : Value) (w : World) (h : SlIs tFil (· < w.heap.size) w v l) (hbig : l.length ≤ 1000000) (hrs : ∀ f ∈ l, f.rs.length ≤ 1000000) :
    Calls Tryz.prog 51 #[v] w fun e w' => ∃ v', e = .returned v' ∧ NewL tFil 45 w.heap.size w' v' l ∧ Below w.heap.size w w' := by
  obtain ⟨ao, cap, bi, off, rfl, hl, hm, ho⟩ := fil_open h
  unfold maxLen at hm
  clear h
  go_enter Tryz.func51, Tryz.ntmps51
  go_wp2
  go_loopg [4, 3] l.length (fun g i v3 wr => ∃ k : Nat, k + g = l.length ∧ i = .int .i64 k ∧ NewL tFil 45 w.heap.size wr v3 (l.take k) ∧ Below w.heap.size w wr)
  case atStart => exact ⟨0, by omega, rfl, NewL.nil, Below.refl _ _⟩
  case round =>
    obtain ⟨k, hk, rfl, hn, hb1⟩ := hrel
    have HN := Lib.hid hn; clear hn
    by_cases hlt : k < l.length
    · obtain ⟨rfl, hbw, hbi, hv, hok, c0, c1, c2, c3⟩ := ho wr (.of_below hb1) k hlt
      clear ho
      obtain ⟨hva, hvc, _, _, rfl, -⟩ := hok.rs
      let W1 := wr.alloc (.cells #[.string l[k].fr, .string l[k].to, .int .i64 l[k].sq, .slice hva l[k].rs.length hvc] 45)
      have b1 : Below wr.heap.size wr W1 := bl_alloc (Below.refl _ _) _
      have hsz1 : W1.heap.size = wr.heap.size + 1 := by simp [W1]
      have okA : FilOk (· < W1.heap.size) W1 l[k] (.slice hva l[k].rs.length hvc) := hok.keep (fun j (hj : j < w.heap.size) => Nat.lt_of_lt_of_le (Nat.lt_of_lt_of_le hj hb1.size) b1.size) (.of_below (b1.mono hb1.size))
      have hll := hrs _ (List.getElem_mem hlt)
      have HB := Lib.hid b1
      have HOK := Lib.hid okA
      have hne : ¬ bi = wr.heap.size := by have := hb1.size; omega
      have hne2 : ¬ wr.heap.size = bi := by omega
      have c3b : (wr.alloc (.cells #[.string l[k].fr, .string l[k].to, .int .i64 l[k].sq, .slice hva l[k].rs.length hvc] 45)).cell? ⟨bi, off + k * 4 + 3, none⟩ = some (.slice hva l[k].rs.length hvc) := (b1.cell (p := ⟨bi, off + k * 4 + 3, none⟩) (by show bi < wr.heap.size; have := hb1.size; omega)).trans c3
      have htl : (l.take k).length = k := by simp; omega
      have HT := Lib.hid htl; clear htl
      have k0 : (0 : Int) ≤ (k : Int) := by omega
      have k1 : (k : Int) < (l.length : Int) := by omega
      go_wp2_with (first
        | (go_at_call 49
           refine (records_new l[k].rs _ _ HOK.out.rs hll).mono ?_
           rintro e w2 ⟨h', rfl, hi2, hb2⟩
           have n0 : w2.heap[wr.heap.size]? = _ := (hb2.block _ (by rw [hsz1]; omega)).trans (heap_alloc_new wr _)
           obtain ⟨d0, d1, d2, d3, df⟩ := blk4 n0
           have HI2 := Lib.hid hi2
           obtain ⟨ao2, cap2, rfl, -⟩ := hi2.form
           have b2 := Lib.hid (HB.out.trans (hb2.mono HB.out.size))
           have b3 := Lib.hid (show Below wr.heap.size wr (w2.setCell ⟨wr.heap.size, 3, none⟩ (.slice ao2 l[k].rs.length cap2)) from bl_set b2.out _ (Nat.le_refl _))
           have hn2 := Lib.hid (show New tFil wr.heap.size (w2.setCell ⟨wr.heap.size, 3, none⟩ (.slice ao2 l[k].rs.length cap2)) (filCells l[k] (.slice ao2 l[k].rs.length cap2)) l[k] from newFil HOK.out ((HI2.out.same (fun q hq => Below.heap_setCell _ _ _ _ (by show q ≠ wr.heap.size; have := hq.1; rw [hsz1] at this; omega))).mono b1.size))
           clear hi2 hb2 n0)
        | (at_builtin
           refine wpList_append_new (.tmp 23) (.tmp 25) rfl 26 rfl slFil rfl HN.out b3.out (show Value.slice (some ⟨w2.heap.size, 0, none⟩) 1 1 = Value.slice (some ⟨(w2.setCell _ _).heap.size, 0, none⟩) 1 1 by rw [World.size_setCell]) hn2.out (by rw [HT.out]; omega) (by rw [HT.out]; unfold maxLen; omega) hb1.size ?_
           intro v' w3 hn3 hb3))
      go_roundg (l.length - (k + 1))
      case measure => omega
      case rel => exact ⟨k + 1, by omega, by go_num, by rw [List.take_succ_eq_append_getElem hlt]; exact hn3, hb1.trans ((b3.out.mono hb1.size).trans hb3)⟩
    · clear ho
      go_wp2
      go_ret
      exact ⟨_, rfl, by have := HN.out; rwa [List.take_of_length_le (by omega)] at this, hb1⟩
end Go.Proofs.YtmjbbpappigngaaGreat
