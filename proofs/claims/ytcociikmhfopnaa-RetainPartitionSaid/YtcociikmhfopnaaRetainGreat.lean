/-
  Layer 40 (retain): the walk of great.
-/
import Derived.Test.YtcociikmhfopnaaRetainSame
import Derived.Test.YtcociikmhfopnaaRetainPurgeR
namespace Go.Proofs.Ytcociikmhfopnaa
open Go.RowKit Go.Tw Go.Tw.Retain

def smallP (l : List Keep) (ims : List Img) (cs : List Int) : Prop := l.length ≤ 10 ∧ ims.length ≤ 200 ∧ cs.length ≤ 400 ∧ ∀ im ∈ ims, im.hold.length ≤ 40
def GreatOut (w : World) (l : List Keep) (ims : List Img) (cs : List Int) (e : Ending) (w' : World) : Prop :=
  Below w.heap.size w w' ∧ (e = .returned (.bool true) ∨ (e = .returned (.bool false) ∧ smallP l ims cs))
set_option maxRecDepth 100000 in
set_option maxHeartbeats 1000000 in
theorem great_any (l : List Keep) (ims : List Img) (cs : List Int) (v vi vc : Value) (w : World) (h : PArgs l ims cs v vi vc w) :
    Calls Try.prog 14 #[.agg #[v, vi, vc]] w (GreatOut w l ims cs) := by
  obtain ⟨hl, him, hcs⟩ := h
  obtain ⟨aol, capl, bl, offl, rfl, hnl, hml, -⟩ := keep_open hl
  obtain ⟨aoi, capi, bi, offi, rfl, hni, hmi, hoi⟩ := img_open him
  obtain ⟨aoc, capc, bc, offc, rfl, hnc, hmc, -⟩ := ints_open hcs
  unfold maxLen at hml hmi hmc
  have HO := Lib.hid hoi; clear hoi hl him hcs
  have b0 : Below w.heap.size w (w.alloc (.cells #[.slice aol l.length capl, .slice aoi ims.length capi, .slice aoc cs.length capc] 39)) := bl_alloc (Below.refl _ _) _
  by_cases h1 : 10 < l.length
  · have h1' : (10 : Int) < (l.length : Int) := by omega
    go_enter Try.func14, Try.ntmps14
    go_wp2
    all_goals (go_ret; exact ⟨b0, .inl rfl⟩)
  have h1' : ¬ (10 : Int) < (l.length : Int) := by omega
  by_cases h2 : 200 < ims.length
  · have h2' : (200 : Int) < (ims.length : Int) := by omega
    go_enter Try.func14, Try.ntmps14
    go_wp2
    all_goals (go_ret; exact ⟨b0, .inl rfl⟩)
  have h2' : ¬ (200 : Int) < (ims.length : Int) := by omega
  by_cases h3 : 400 < cs.length
  · have h3' : (400 : Int) < (cs.length : Int) := by omega
    go_enter Try.func14, Try.ntmps14
    go_wp2
    all_goals (go_ret; exact ⟨b0, .inl rfl⟩)
  have h3' : ¬ (400 : Int) < (cs.length : Int) := by omega
  go_enter Try.func14, Try.ntmps14
  go_wp2
  go_loopg [24] ims.length (fun g i wr => ∃ k : Nat, k + g = ims.length ∧ i = .int .i64 k ∧ Below w.heap.size w wr ∧ Hid (∀ im ∈ ims.take k, im.hold.length ≤ 40))
  case atStart => exact ⟨0, by omega, rfl, b0, Lib.hid (fun _ h => by simp at h)⟩
  case round =>
    obtain ⟨k, hk, rfl, hb1, HA⟩ := hrel
    by_cases hlt : k < ims.length
    · obtain ⟨rfl, -, hx1, hv, hok, c0, c1, c2, c3, c4⟩ := HO.out wr (.of_below hb1) k hlt
      obtain ⟨hva, hvc, _, _, rfl, hq1, hq2, -⟩ := hok.hold
      unfold maxLen at hq2
      by_cases h4 : 40 < ims[k].hold.length
      · have h4' : (40 : Int) < (ims[k].hold.length : Int) := by omega
        go_wp2
        go_ret
        exact ⟨bl_alloc hb1 _, .inl rfl⟩
      · have h4' : ¬ (40 : Int) < (ims[k].hold.length : Int) := by omega
        go_wp2
        go_roundg (ims.length - (k + 1))
        case measure => omega
        case rel =>
          refine ⟨k + 1, by omega, by go_num, bl_alloc hb1 _, Lib.hid (fun im him => ?_)⟩
          rw [List.take_succ_eq_append_getElem hlt, List.mem_append] at him
          rcases him with him | him
          · exact HA.out im him
          · simp at him; subst him; omega
    · go_wp2
      go_ret
      refine ⟨hb1, .inr ⟨rfl, by omega, by omega, by omega, ?_⟩⟩
      have := HA.out
      rwa [List.take_of_length_le (by omega)] at this
end Go.Proofs.Ytcociikmhfopnaa
