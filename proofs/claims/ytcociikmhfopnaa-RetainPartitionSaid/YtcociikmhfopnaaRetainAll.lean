/-
  Layer 40 (retain): the walks: cloneAll, all.
-/
import Derived.Test.YtcociikmhfopnaaRetainFind
namespace Go.Proofs.Ytcociikmhfopnaa
open Go.RowKit Go.Tw Go.Tw.Retain

theorem imgOk_widen {S S' : Nat → Prop} {w : World} {im : Img} {h : Value} (hi : ImgOk S w im h) (hs : ∀ k, S k → S' k) : ImgOk S' w im h := ⟨hi.id, hi.t, hi.p, hi.hold.keep hs (SameOn.refl _ _), hi.dg⟩
theorem box_img' {S : Nat → Prop} {w w' : World} {im : Img} {h : Value} (hi : ImgOk S w im h) (hs : SameOn S w w') : ImgOk S w' im h := ⟨hi.id, hi.t, hi.p, hi.hold.keep (fun _ h => h) hs, hi.dg⟩
theorem newImg {S : Nat → Prop} {w0 : World} {B : Nat} {w : World} {im : Img} {h0 h : Value} (hi : ImgOk S w0 im h0) (hn : NewL tStr 9 B w h im.hold) : New tImg B w (imgCells im h) im := by
  obtain ⟨F, h1, h2, h3⟩ := hn
  exact ⟨F, tImg_own_mk h1 hi.id hi.t hi.p hi.dg, h2, h3⟩
set_option maxRecDepth 100000 in
set_option maxHeartbeats 1000000 in
theorem cloneAll_any (ims : List Img) (v : Value) (w : World) (h : SlIs tImg (· < w.heap.size) w v ims) (hbig : ims.length ≤ 1000000) (hholds : ∀ im ∈ ims, im.hold.length ≤ 1000000) :
    Calls Try.prog 34 #[v] w fun e w' => ∃ v', e = .returned v' ∧ NewL tImg 26 w.heap.size w' v' ims ∧ Below w.heap.size w w' := by
  obtain ⟨ao, cap, bi, off, rfl, hl, hm, ho⟩ := img_open h
  unfold maxLen at hm
  clear h
  go_enter Try.func34, Try.ntmps34
  go_wp2
  go_loopg [8, 3] ims.length (fun g i v3 wr => ∃ k : Nat, k + g = ims.length ∧ i = .int .i64 k ∧ NewL tImg 26 w.heap.size wr v3 (ims.take k) ∧ Below w.heap.size w wr)
  case atStart => exact ⟨0, by omega, rfl, NewL.nil, Below.refl _ _⟩
  case round =>
    obtain ⟨k, hk, rfl, hn, hb1⟩ := hrel
    have HN := Lib.hid hn; clear hn
    by_cases hlt : k < ims.length
    · obtain ⟨rfl, -, hbi, hv, hok, c0, c1, c2, c3, c4⟩ := ho wr (.of_below hb1) k hlt
      clear ho
      obtain ⟨hva, hvc, _, _, rfl, -⟩ := hok.hold
      let W1 := wr.alloc (.cells #[.string ims[k].id, .int .i64 ims[k].t, .int .i64 ims[k].p, .slice hva ims[k].hold.length hvc, .int .u64 ims[k].dg] 26)
      have b1 : Below wr.heap.size wr W1 := bl_alloc (Below.refl _ _) _
      have okA : ImgOk (· < W1.heap.size) W1 ims[k] (.slice hva ims[k].hold.length hvc) := imgOk_widen (box_img' hok (.of_below (b1.mono hb1.size))) (fun j (hj : j < w.heap.size) => Nat.lt_of_lt_of_le (Nat.lt_of_lt_of_le hj hb1.size) b1.size)
      have hll := hholds _ (List.getElem_mem hlt)
      have HB := Lib.hid b1
      have htl : (ims.take k).length = k := by simp; omega
      have HT := Lib.hid htl; clear htl
      go_wp2_with (first
        | (go_at_call 29
           refine (clone_new ims[k] _ _ okA hll).mono ?_
           rintro e w2 ⟨h', rfl, hi2, hb2⟩
           have hn2 : New tImg wr.heap.size w2 (imgCells ims[k] h') ims[k] := newImg okA (hi2.mono b1.size)
           obtain ⟨ao2, cap2, rfl, -⟩ := hi2.form
           have b2 := HB.out.trans (hb2.mono HB.out.size)
           clear hi2 hb2)
        | (at_builtin
           refine wpList_append_new (.tmp 12) (.tmp 15) rfl 36 rfl slImg rfl HN.out b2 rfl hn2 (by rw [HT.out]; omega) (by rw [HT.out]; unfold maxLen; omega) hb1.size ?_
           intro v' w3 hn3 hb3))
      go_roundg (ims.length - (k + 1))
      case measure => omega
      case rel => exact ⟨k + 1, by omega, by go_num, by rw [List.take_succ_eq_append_getElem hlt]; exact hn3, hb1.trans ((b2.mono hb1.size).trans hb3)⟩
    · clear ho
      go_wp2
      go_ret
      exact ⟨_, rfl, by have := HN.out; rwa [List.take_of_length_le (by omega)] at this, hb1⟩

set_option maxRecDepth 100000 in
set_option maxHeartbeats 1000000 in
theorem all_any (ims : List Img) (v : Value) (w : World) (h : SlIs tImg (· < w.heap.size) w v ims) (hbig : ims.length ≤ 1000000) (hholds : ∀ im ∈ ims, im.hold.length ≤ 1000000) :
    Calls Try.prog 38 #[v] w fun e w' => ∃ v', e = .returned v' ∧ NewL tImg 26 w.heap.size w' v' ims ∧ Below w.heap.size w w' := by
  obtain ⟨ao, cap, bi, off, rfl, hl, hm, ho⟩ := img_open h
  unfold maxLen at hm
  clear h
  go_enter Try.func38, Try.ntmps38
  go_wp2
  go_loopg [4, 3] ims.length (fun g i v3 wr => ∃ k : Nat, k + g = ims.length ∧ i = .int .i64 k ∧ NewL tImg 26 w.heap.size wr v3 (ims.take k) ∧ Below w.heap.size w wr)
  case atStart => exact ⟨0, by omega, rfl, NewL.nil, Below.refl _ _⟩
  case round =>
    obtain ⟨k, hk, rfl, hn, hb1⟩ := hrel
    have HN := Lib.hid hn; clear hn
    by_cases hlt : k < ims.length
    · obtain ⟨rfl, -, hbi, hv, hok, c0, c1, c2, c3, c4⟩ := ho wr (.of_below hb1) k hlt
      clear ho
      obtain ⟨hva, hvc, _, _, rfl, -⟩ := hok.hold
      have okA : ImgOk (· < wr.heap.size) wr ims[k] (.slice hva ims[k].hold.length hvc) := imgOk_widen hok (fun j (hj : j < w.heap.size) => Nat.lt_of_lt_of_le hj hb1.size)
      have hll := hholds _ (List.getElem_mem hlt)
      have htl : (ims.take k).length = k := by simp; omega
      have HT := Lib.hid htl; clear htl
      go_wp2_with (first
        | (go_at_call 30
           refine (copied_new ims[k] _ _ okA hll).mono ?_
           rintro e w2 ⟨h', rfl, hi2, hb2⟩
           have hn2 : New tImg wr.heap.size w2 (imgCells ims[k] h') ims[k] := newImg okA hi2
           obtain ⟨ao2, cap2, rfl, -⟩ := hi2.form
           clear hi2)
        | (at_builtin
           refine wpList_append_new (.tmp 11) (.tmp 17) rfl 36 rfl slImg rfl HN.out hb2 rfl hn2 (by rw [HT.out]; omega) (by rw [HT.out]; unfold maxLen; omega) hb1.size ?_
           intro v' w3 hn3 hb3))
      go_roundg (ims.length - (k + 1))
      case measure => omega
      case rel => exact ⟨k + 1, by omega, by go_num, by rw [List.take_succ_eq_append_getElem hlt]; exact hn3, hb1.trans ((hb2.mono hb1.size).trans hb3)⟩
    · clear ho
      go_wp2
      go_ret
      exact ⟨_, rfl, by have := HN.out; rwa [List.take_of_length_le (by omega)] at this, hb1⟩
end Go.Proofs.Ytcociikmhfopnaa
