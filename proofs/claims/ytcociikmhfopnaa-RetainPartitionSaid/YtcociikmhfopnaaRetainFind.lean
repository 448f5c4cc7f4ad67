/-
  Layer 40 (retain): the walks: find (a closure given to slices.IndexFunc), the reference's find.
-/
import Derived.Test.YtcociikmhfopnaaRetainWalk5
namespace Go.Proofs.Ytcociikmhfopnaa
open Go.RowKit Go.Tw Go.Tw.Retain

theorem pred_any (im : Img) (ao : Option Addr) (n cap : Nat) (id : ByteArray) (b : Nat) (w : World) (hb : b < w.heap.size) (hc : w.cell? ⟨b, 0, none⟩ = some (.string id)) :
    Calls Try.prog 43 #[.agg #[.string im.id, .int .i64 im.t, .int .i64 im.p, .slice ao n cap, .int .u64 im.dg], .pointer (some ⟨b, 0, none⟩)] w
      fun e w' => e = .returned (.bool (isId id im)) ∧ Below w.heap.size w w' := by
  go_enter Try.func43, Try.ntmps43
  go_wp2
  go_ret
  refine ⟨ret_bool ?_, bl_alloc (Below.refl _ _) _⟩
  rw [str_eq]; rfl

set_option maxHeartbeats 1000000 in
theorem indexFunc_any (ims : List Img) (v : Value) (id : ByteArray) (b : Nat) (w : World) (h : SlIs tImg (· < w.heap.size) w v ims) (hb : b < w.heap.size) (hc : w.cell? ⟨b, 0, none⟩ = some (.string id)) :
    Calls Try.prog 42 #[v, .func (.func 43) #[] #[.pointer (some ⟨b, 0, none⟩)]] w
      fun e w' => e = .returned (.int .i64 (idxP (isId id) 0 ims)) ∧ Below w.heap.size w w' := by
  obtain ⟨ao, cap, bi, off, rfl, hl, hm, ho⟩ := img_open h
  unfold maxLen at hm
  clear h
  go_enter Try.func42, Try.ntmps42
  go_wp2
  go_loopg [8] ims.length (fun g i wr => ∃ k : Nat, k + g = ims.length ∧ i = .int .i64 k ∧ idxP (isId id) 0 ims = idxP (isId id) k (ims.drop k) ∧ Below w.heap.size w wr)
  case atStart => exact ⟨0, by omega, rfl, rfl, Below.refl _ _⟩
  case round =>
    obtain ⟨k, hk, rfl, he, hb1⟩ := hrel
    have HE := Lib.hid he; clear he
    by_cases hlt : k < ims.length
    · obtain ⟨rfl, -, hbi, hv, hok, c0, c1, c2, c3, c4⟩ := ho wr (.of_below hb1) k hlt
      clear ho
      obtain ⟨hva, hvc, _, _, rfl, -⟩ := hok.hold
      have hs1 := hb1.size
      have hc2 : wr.cell? ⟨b, 0, none⟩ = some (.string id) := (hb1.cell (p := ⟨b, 0, none⟩) hb).trans hc
      have hb2 : b < wr.heap.size := by omega
      have k0 : (0 : Int) ≤ (k : Int) := by omega
      have k1 : (k : Int) < (ims.length : Int) := by omega
      have hd := idx_drop (p := isId id) hlt
      have HD := Lib.hid hd; clear hd hok
      rcases Bool.eq_false_or_eq_true (isId id ims[k]) with hq | hq
      all_goals
        have HQ := Lib.hid hq
        go_wp2_with (go_at_call 43; refine (pred_any ims[k] _ _ _ id b wr hb2 hc2).mono ?_; rintro e w2 ⟨rfl, hbb⟩; rw [HQ.out])
      · go_ret
        exact ⟨ret_int (by rw [HE.out, HD.out, if_pos HQ.out]), hb1.trans (hbb.mono hb1.size)⟩
      · go_roundg (ims.length - (k + 1))
        case measure => omega
        case rel => exact ⟨k + 1, by omega, by go_num, by rw [HE.out, HD.out, if_neg (by simp [HQ.out])], hb1.trans (‹Below wr.heap.size wr _›.mono hb1.size)⟩
    · clear ho
      go_wp2
      go_ret
      exact ⟨ret_int (by rw [HE.out, idx_end (by omega)]), hb1⟩

theorem find_any (ims : List Img) (v : Value) (id : ByteArray) (w : World) (h : SlIs tImg (· < w.heap.size) w v ims) :
    Calls Try.prog 32 #[v, .string id] w fun e w' => e = .returned (.int .i64 (idxP (isId id) 0 ims)) ∧ Below w.heap.size w w' := by
  have h' : SlIs tImg (· < (w.alloc (.cells #[.string id] 9)).heap.size) (w.alloc (.cells #[.string id] 9)) v ims := h.step (bl_alloc (Below.refl _ _) _)
  have HH := Lib.hid h'; clear h' h
  go_enter Try.func32, Try.ntmps32
  go_wp2_with (fail)
  refine (indexFunc_any ims v id w.heap.size _ HH.out (by simp) (by simp only [World.cell?, heap_alloc_new]; rfl)).mono ?_
  rintro e w2 ⟨rfl, hb⟩
  go_wp2
  go_ret
  exact ⟨rfl, (bl_alloc (Below.refl _ _) _).trans (hb.mono (by simp))⟩

set_option maxHeartbeats 400000 in
theorem findR_any (ims : List Img) (v : Value) (id : ByteArray) (w : World) (h : SlIs tImg (· < w.heap.size) w v ims) :
    Calls Try.prog 36 #[v, .string id] w fun e w' => e = .returned (.int .i64 (idxP (isId id) 0 ims)) ∧ w = w' := by
  obtain ⟨ao, cap, bi, off, rfl, hl, hm, ho⟩ := img_open h
  unfold maxLen at hm
  clear h
  go_enter Try.func36, Try.ntmps36
  go_wp2
  go_loopg [5] ims.length (fun g i wr => ∃ k : Nat, k + g = ims.length ∧ i = .int .i64 k ∧ idxP (isId id) 0 ims = idxP (isId id) k (ims.drop k) ∧ w = wr)
  case atStart => exact ⟨0, by omega, rfl, rfl, rfl⟩
  case round =>
    obtain ⟨k, hk, rfl, he, rfl⟩ := hrel
    have HE := Lib.hid he; clear he
    by_cases hlt : k < ims.length
    · obtain ⟨rfl, -, hbi, hv, hok, c0, c1, c2, c3, c4⟩ := ho w (SameOn.refl _ _) k hlt
      clear ho
      have hd := idx_drop (p := isId id) hlt
      have HD := Lib.hid hd; clear hd hok
      by_cases hq : ims[k].id = id
      · have hq' : (ims[k].id.toList == id.toList) = true := by rw [str_eq]; simp [hq]
        have HQ := Lib.hid hq; clear hq
        go_wp2
        go_ret
        exact ⟨ret_int (by rw [HE.out, HD.out, if_pos (by simp [isId, HQ.out])]), rfl⟩
      · have hq' : (ims[k].id.toList == id.toList) = false := by rw [str_eq]; simp [hq]
        have HQ := Lib.hid hq; clear hq
        go_wp2
        go_roundg (ims.length - (k + 1))
        case measure => omega
        case rel => exact ⟨k + 1, by omega, by go_num, by rw [HE.out, HD.out, if_neg (by simp [isId, HQ.out])], rfl⟩
    · clear ho
      go_wp2
      go_ret
      exact ⟨ret_int (by rw [HE.out, idx_end (by omega)]), rfl⟩
end Go.Proofs.Ytcociikmhfopnaa
