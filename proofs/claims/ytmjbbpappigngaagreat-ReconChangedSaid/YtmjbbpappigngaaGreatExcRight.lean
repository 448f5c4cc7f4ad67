/-
  Layer 42 (agency): the walks of right; of the reference's record.
-/
import Derived.Test.YtmjbbpappigngaaGreatExcCheck
namespace Go.Proofs.YtmjbbpappigngaaGreat
open Go.RowKit Go.Tw Go.Tw.Exc
/-- a record in a box -/
def RecW (w : World) (r : Rec) (wr : World) : Prop := wr.heap[w.heap.size]? = some (.cells #[.int .i64 r.k, .string r.key, .int .i64 r.t, .int .i64 r.c, .int .i64 r.y] 49 (0, 0)) ∧ Below w.heap.size w wr
theorem RecW.start (w : World) (r : Rec) : RecW w r (w.alloc (.cells #[.int .i64 r.k, .string r.key, .int .i64 r.t, .int .i64 r.c, .int .i64 r.y] 49)) := ⟨heap_alloc_new _ _, bl_alloc (Below.refl _ _) _⟩
def recV (r : Rec) : Value := .agg #[.int .i64 r.k, .string r.key, .int .i64 r.t, .int .i64 r.c, .int .i64 r.y]
set_option maxRecDepth 100000 in
set_option maxHeartbeats 2000000 in
theorem right_any (r : Rec) (hr : RecOk r) (w : World) : Calls Tryz.prog 71 #[.agg #[.int .i64 r.k, .string r.key, .int .i64 r.t, .int .i64 r.c, .int .i64 r.y]] w fun e w' => e = .returned (.int .i64 (rightC r)) ∧ Below w.heap.size w w' := by
  have HB := Lib.hid (RecW.start w r)
  have HFI := Lib.hid (show ∀ W, Calls Tryz.prog 83 #[.string r.key] W fun e w' => e = .returned (.bool (fieldC r.key)) ∧ W = w' from fun W => field_any r.key W hr.key)
  have HFT := Lib.hid (show ∀ W, Calls Tryz.prog 42 #[.int .i64 r.c] W fun e w' => e = .returned (.bool (fits r.c)) ∧ W = w' from fun W => fits_any r.c W)
  have hy := hr.y
  have hcc := hr.c
  have ht := hr.t
  have hk := hr.k
  have hsz := hr.key
  unfold i64ok at hy hcc ht hk
  unfold maxLen at hsz
  clear hr
  by_cases h1 : r.k < 1
  · have HH := Lib.hid (right_1 (r := r) (.inl h1))
    go_enter Tryz.func71, Tryz.ntmps71
    go_wp2_with (first
      | (go_at_call 83; refine (HFI.out _).mono ?_; rintro e w1 ⟨rfl, rfl⟩; rw [hf])
      | (go_at_call 42; refine (HFT.out _).mono ?_; rintro e w1 ⟨rfl, rfl⟩; rw [hc]))
    go_ret
    exact ⟨ret_int HH.out, HB.out.2⟩
  have k1 : decide (r.k < 1) = false := by simpa using h1
  by_cases h2 : 4 < r.k
  · have HH := Lib.hid (right_1 (r := r) (.inr h2))
    clear h1
    go_enter Tryz.func71, Tryz.ntmps71
    go_wp2_with (first
      | (go_at_call 83; refine (HFI.out _).mono ?_; rintro e w1 ⟨rfl, rfl⟩; rw [hf])
      | (go_at_call 42; refine (HFT.out _).mono ?_; rintro e w1 ⟨rfl, rfl⟩; rw [hc]))
    go_ret
    exact ⟨ret_int HH.out, HB.out.2⟩
  have k2 : decide (4 < r.k) = false := by simpa using h2
  cases hf : fieldC r.key
  · have HH := Lib.hid (right_5 (r := r) (by omega) (by omega) hf)
    clear h1 h2
    go_enter Tryz.func71, Tryz.ntmps71
    go_wp2_with (first
      | (go_at_call 83; refine (HFI.out _).mono ?_; rintro e w1 ⟨rfl, rfl⟩; rw [hf])
      | (go_at_call 42; refine (HFT.out _).mono ?_; rintro e w1 ⟨rfl, rfl⟩; rw [hc]))
    go_ret
    exact ⟨ret_int HH.out, HB.out.2⟩
  by_cases h3 : 256 < r.key.size
  · have HH := Lib.hid (right_4 (r := r) (by omega) (by omega) hf h3)
    have k3 : (256 : Int) < (r.key.size : Int) := by omega
    clear h1 h2 h3
    go_enter Tryz.func71, Tryz.ntmps71
    go_wp2_with (first
      | (go_at_call 83; refine (HFI.out _).mono ?_; rintro e w1 ⟨rfl, rfl⟩; rw [hf])
      | (go_at_call 42; refine (HFT.out _).mono ?_; rintro e w1 ⟨rfl, rfl⟩; rw [hc]))
    go_ret
    exact ⟨ret_int HH.out, HB.out.2⟩
  have k3 : decide ((256 : Int) < (r.key.size : Int)) = false := by simp; omega
  by_cases h4 : r.t < 0
  · have HH := Lib.hid (right_12 (r := r) (by omega) (by omega) hf (by omega) (.inl h4))
    clear h1 h2 h3
    go_enter Tryz.func71, Tryz.ntmps71
    go_wp2_with (first
      | (go_at_call 83; refine (HFI.out _).mono ?_; rintro e w1 ⟨rfl, rfl⟩; rw [hf])
      | (go_at_call 42; refine (HFT.out _).mono ?_; rintro e w1 ⟨rfl, rfl⟩; rw [hc]))
    go_ret
    exact ⟨ret_int HH.out, HB.out.2⟩
  have k4 : decide (r.t < 0) = false := by simpa using h4
  by_cases h5 : 68719476736 ≤ r.t
  · have HH := Lib.hid (right_12 (r := r) (by omega) (by omega) hf (by omega) (.inr h5))
    clear h1 h2 h3 h4
    go_enter Tryz.func71, Tryz.ntmps71
    go_wp2_with (first
      | (go_at_call 83; refine (HFI.out _).mono ?_; rintro e w1 ⟨rfl, rfl⟩; rw [hf])
      | (go_at_call 42; refine (HFT.out _).mono ?_; rintro e w1 ⟨rfl, rfl⟩; rw [hc]))
    go_ret
    exact ⟨ret_int HH.out, HB.out.2⟩
  have k5 : decide (68719476736 ≤ r.t) = false := by simp; omega
  by_cases h6 : r.k = 3
  · have hh := right_r (r := r) (by omega) (by omega) hf (by omega) (by omega) (by omega) h6
    have k6 : (r.k == 3) = true := by simpa using h6
    by_cases h7 : r.c = 0
    case neg =>
      rw [if_pos (.inl h7)] at hh
      have HH := Lib.hid hh
      have k7 : (r.c != 0) = true := by simpa using h7
      clear h1 h2 h3 h4 h5 h6 h7 hh
      go_enter Tryz.func71, Tryz.ntmps71
      go_wp2_with (first
        | (go_at_call 83; refine (HFI.out _).mono ?_; rintro e w1 ⟨rfl, rfl⟩; rw [hf])
        | (go_at_call 42; refine (HFT.out _).mono ?_; rintro e w1 ⟨rfl, rfl⟩; rw [hc]))
      go_ret
      exact ⟨ret_int HH.out, HB.out.2⟩
    have k7 : (r.c != 0) = false := by simpa using h7
    by_cases h8 : r.y < 0
    · rw [if_pos (.inr (.inl h8))] at hh
      have HH := Lib.hid hh
      clear h1 h2 h3 h4 h5 h6 h7 hh
      go_enter Tryz.func71, Tryz.ntmps71
      go_wp2_with (first
        | (go_at_call 83; refine (HFI.out _).mono ?_; rintro e w1 ⟨rfl, rfl⟩; rw [hf])
        | (go_at_call 42; refine (HFT.out _).mono ?_; rintro e w1 ⟨rfl, rfl⟩; rw [hc]))
      go_ret
      exact ⟨ret_int HH.out, HB.out.2⟩
    have k8 : decide (r.y < 0) = false := by simpa using h8
    by_cases h9 : 99 < r.y
    · rw [if_pos (.inr (.inr h9))] at hh
      have HH := Lib.hid hh
      clear h1 h2 h3 h4 h5 h6 h7 h8 hh
      go_enter Tryz.func71, Tryz.ntmps71
      go_wp2_with (first
        | (go_at_call 83; refine (HFI.out _).mono ?_; rintro e w1 ⟨rfl, rfl⟩; rw [hf])
        | (go_at_call 42; refine (HFT.out _).mono ?_; rintro e w1 ⟨rfl, rfl⟩; rw [hc]))
      go_ret
      exact ⟨ret_int HH.out, HB.out.2⟩
    have k9 : decide (99 < r.y) = false := by simpa using h9
    rw [if_neg (by omega)] at hh
    have HH := Lib.hid hh
    clear h1 h2 h3 h4 h5 h6 h7 h8 h9 hh
    go_enter Tryz.func71, Tryz.ntmps71
    go_wp2_with (first
      | (go_at_call 83; refine (HFI.out _).mono ?_; rintro e w1 ⟨rfl, rfl⟩; rw [hf])
      | (go_at_call 42; refine (HFT.out _).mono ?_; rintro e w1 ⟨rfl, rfl⟩; rw [hc]))
    go_ret
    exact ⟨ret_int HH.out, HB.out.2⟩
  have hh := right_a (r := r) (by omega) (by omega) hf (by omega) (by omega) (by omega) h6
  have k6 : (r.k == 3) = false := by simpa using h6
  cases hc : fits r.c
  · rw [if_pos hc] at hh
    have HH := Lib.hid hh
    clear h1 h2 h3 h4 h5 h6 hh
    go_enter Tryz.func71, Tryz.ntmps71
    go_wp2_with (first
      | (go_at_call 83; refine (HFI.out _).mono ?_; rintro e w1 ⟨rfl, rfl⟩; rw [hf])
      | (go_at_call 42; refine (HFT.out _).mono ?_; rintro e w1 ⟨rfl, rfl⟩; rw [hc]))
    go_ret
    exact ⟨ret_int HH.out, HB.out.2⟩
  rw [if_neg (by simp [hc])] at hh
  by_cases h7 : r.y = 0
  case neg =>
    rw [if_pos h7] at hh
    have HH := Lib.hid hh
    have k7 : (r.y != 0) = true := by simpa using h7
    clear h1 h2 h3 h4 h5 h6 h7 hh
    go_enter Tryz.func71, Tryz.ntmps71
    go_wp2_with (first
      | (go_at_call 83; refine (HFI.out _).mono ?_; rintro e w1 ⟨rfl, rfl⟩; rw [hf])
      | (go_at_call 42; refine (HFT.out _).mono ?_; rintro e w1 ⟨rfl, rfl⟩; rw [hc]))
    go_ret
    exact ⟨ret_int HH.out, HB.out.2⟩
  rw [if_neg (by simpa using h7)] at hh
  have HH := Lib.hid hh
  have k7 : (r.y != 0) = false := by simpa using h7
  clear h1 h2 h3 h4 h5 h6 h7 hh
  go_enter Tryz.func71, Tryz.ntmps71
  go_wp2_with (first
    | (go_at_call 83; refine (HFI.out _).mono ?_; rintro e w1 ⟨rfl, rfl⟩; rw [hf])
    | (go_at_call 42; refine (HFT.out _).mono ?_; rintro e w1 ⟨rfl, rfl⟩; rw [hc]))
  go_ret
  exact ⟨ret_int HH.out, HB.out.2⟩
set_option maxRecDepth 100000 in
set_option maxHeartbeats 2000000 in
theorem rightR_any (r : Rec) (hr : RecOk r) (w : World) : Calls Tryz.prog 39 #[.agg #[.int .i64 r.k, .string r.key, .int .i64 r.t, .int .i64 r.c, .int .i64 r.y]] w fun e w' => e = .returned (.int .i64 (rightC r)) ∧ Below w.heap.size w w' := by
  have HB := Lib.hid (RecW.start w r)
  have HFI := Lib.hid (show ∀ W, Calls Tryz.prog 60 #[.string r.key] W fun e w' => e = .returned (.bool (fieldC r.key)) ∧ W = w' from fun W => fieldR_any r.key W hr.key)
  have HFT := Lib.hid (show ∀ W, Calls Tryz.prog 61 #[.int .i64 r.c] W fun e w' => e = .returned (.bool (fits r.c)) ∧ W = w' from fun W => fitsR_any r.c W)
  have hy := hr.y
  have hcc := hr.c
  have ht := hr.t
  have hk := hr.k
  have hsz := hr.key
  unfold i64ok at hy hcc ht hk
  unfold maxLen at hsz
  clear hr
  by_cases h1 : r.k < 1
  · have HH := Lib.hid (right_1 (r := r) (.inl h1))
    go_enter Tryz.func39, Tryz.ntmps39
    go_wp2_with (first
      | (go_at_call 60; refine (HFI.out _).mono ?_; rintro e w1 ⟨rfl, rfl⟩; rw [hf])
      | (go_at_call 61; refine (HFT.out _).mono ?_; rintro e w1 ⟨rfl, rfl⟩; rw [hc]))
    go_ret
    exact ⟨ret_int HH.out, HB.out.2⟩
  have k1 : decide (r.k < 1) = false := by simpa using h1
  by_cases h2 : 4 < r.k
  · have HH := Lib.hid (right_1 (r := r) (.inr h2))
    clear h1
    go_enter Tryz.func39, Tryz.ntmps39
    go_wp2_with (first
      | (go_at_call 60; refine (HFI.out _).mono ?_; rintro e w1 ⟨rfl, rfl⟩; rw [hf])
      | (go_at_call 61; refine (HFT.out _).mono ?_; rintro e w1 ⟨rfl, rfl⟩; rw [hc]))
    go_ret
    exact ⟨ret_int HH.out, HB.out.2⟩
  have k2 : decide (4 < r.k) = false := by simpa using h2
  cases hf : fieldC r.key
  · have HH := Lib.hid (right_5 (r := r) (by omega) (by omega) hf)
    clear h1 h2
    go_enter Tryz.func39, Tryz.ntmps39
    go_wp2_with (first
      | (go_at_call 60; refine (HFI.out _).mono ?_; rintro e w1 ⟨rfl, rfl⟩; rw [hf])
      | (go_at_call 61; refine (HFT.out _).mono ?_; rintro e w1 ⟨rfl, rfl⟩; rw [hc]))
    go_ret
    exact ⟨ret_int HH.out, HB.out.2⟩
  by_cases h3 : 256 < r.key.size
  · have HH := Lib.hid (right_4 (r := r) (by omega) (by omega) hf h3)
    have k3 : (256 : Int) < (r.key.size : Int) := by omega
    clear h1 h2 h3
    go_enter Tryz.func39, Tryz.ntmps39
    go_wp2_with (first
      | (go_at_call 60; refine (HFI.out _).mono ?_; rintro e w1 ⟨rfl, rfl⟩; rw [hf])
      | (go_at_call 61; refine (HFT.out _).mono ?_; rintro e w1 ⟨rfl, rfl⟩; rw [hc]))
    go_ret
    exact ⟨ret_int HH.out, HB.out.2⟩
  have k3 : decide ((256 : Int) < (r.key.size : Int)) = false := by simp; omega
  by_cases h4 : r.t < 0
  · have HH := Lib.hid (right_12 (r := r) (by omega) (by omega) hf (by omega) (.inl h4))
    clear h1 h2 h3
    go_enter Tryz.func39, Tryz.ntmps39
    go_wp2_with (first
      | (go_at_call 60; refine (HFI.out _).mono ?_; rintro e w1 ⟨rfl, rfl⟩; rw [hf])
      | (go_at_call 61; refine (HFT.out _).mono ?_; rintro e w1 ⟨rfl, rfl⟩; rw [hc]))
    go_ret
    exact ⟨ret_int HH.out, HB.out.2⟩
  have k4 : decide (r.t < 0) = false := by simpa using h4
  by_cases h5 : 68719476736 ≤ r.t
  · have HH := Lib.hid (right_12 (r := r) (by omega) (by omega) hf (by omega) (.inr h5))
    clear h1 h2 h3 h4
    go_enter Tryz.func39, Tryz.ntmps39
    go_wp2_with (first
      | (go_at_call 60; refine (HFI.out _).mono ?_; rintro e w1 ⟨rfl, rfl⟩; rw [hf])
      | (go_at_call 61; refine (HFT.out _).mono ?_; rintro e w1 ⟨rfl, rfl⟩; rw [hc]))
    go_ret
    exact ⟨ret_int HH.out, HB.out.2⟩
  have k5 : decide (68719476736 ≤ r.t) = false := by simp; omega
  by_cases h6 : r.k = 3
  · have hh := right_r (r := r) (by omega) (by omega) hf (by omega) (by omega) (by omega) h6
    have k6 : (r.k == 3) = true := by simpa using h6
    by_cases h7 : r.c = 0
    case neg =>
      rw [if_pos (.inl h7)] at hh
      have HH := Lib.hid hh
      have k7 : (r.c != 0) = true := by simpa using h7
      clear h1 h2 h3 h4 h5 h6 h7 hh
      go_enter Tryz.func39, Tryz.ntmps39
      go_wp2_with (first
        | (go_at_call 60; refine (HFI.out _).mono ?_; rintro e w1 ⟨rfl, rfl⟩; rw [hf])
        | (go_at_call 61; refine (HFT.out _).mono ?_; rintro e w1 ⟨rfl, rfl⟩; rw [hc]))
      go_ret
      exact ⟨ret_int HH.out, HB.out.2⟩
    have k7 : (r.c != 0) = false := by simpa using h7
    by_cases h8 : r.y < 0
    · rw [if_pos (.inr (.inl h8))] at hh
      have HH := Lib.hid hh
      clear h1 h2 h3 h4 h5 h6 h7 hh
      go_enter Tryz.func39, Tryz.ntmps39
      go_wp2_with (first
        | (go_at_call 60; refine (HFI.out _).mono ?_; rintro e w1 ⟨rfl, rfl⟩; rw [hf])
        | (go_at_call 61; refine (HFT.out _).mono ?_; rintro e w1 ⟨rfl, rfl⟩; rw [hc]))
      go_ret
      exact ⟨ret_int HH.out, HB.out.2⟩
    have k8 : decide (r.y < 0) = false := by simpa using h8
    by_cases h9 : 99 < r.y
    · rw [if_pos (.inr (.inr h9))] at hh
      have HH := Lib.hid hh
      clear h1 h2 h3 h4 h5 h6 h7 h8 hh
      go_enter Tryz.func39, Tryz.ntmps39
      go_wp2_with (first
        | (go_at_call 60; refine (HFI.out _).mono ?_; rintro e w1 ⟨rfl, rfl⟩; rw [hf])
        | (go_at_call 61; refine (HFT.out _).mono ?_; rintro e w1 ⟨rfl, rfl⟩; rw [hc]))
      go_ret
      exact ⟨ret_int HH.out, HB.out.2⟩
    have k9 : decide (99 < r.y) = false := by simpa using h9
    rw [if_neg (by omega)] at hh
    have HH := Lib.hid hh
    clear h1 h2 h3 h4 h5 h6 h7 h8 h9 hh
    go_enter Tryz.func39, Tryz.ntmps39
    go_wp2_with (first
      | (go_at_call 60; refine (HFI.out _).mono ?_; rintro e w1 ⟨rfl, rfl⟩; rw [hf])
      | (go_at_call 61; refine (HFT.out _).mono ?_; rintro e w1 ⟨rfl, rfl⟩; rw [hc]))
    go_ret
    exact ⟨ret_int HH.out, HB.out.2⟩
  have hh := right_a (r := r) (by omega) (by omega) hf (by omega) (by omega) (by omega) h6
  have k6 : (r.k == 3) = false := by simpa using h6
  cases hc : fits r.c
  · rw [if_pos hc] at hh
    have HH := Lib.hid hh
    clear h1 h2 h3 h4 h5 h6 hh
    go_enter Tryz.func39, Tryz.ntmps39
    go_wp2_with (first
      | (go_at_call 60; refine (HFI.out _).mono ?_; rintro e w1 ⟨rfl, rfl⟩; rw [hf])
      | (go_at_call 61; refine (HFT.out _).mono ?_; rintro e w1 ⟨rfl, rfl⟩; rw [hc]))
    go_ret
    exact ⟨ret_int HH.out, HB.out.2⟩
  rw [if_neg (by simp [hc])] at hh
  by_cases h7 : r.y = 0
  case neg =>
    rw [if_pos h7] at hh
    have HH := Lib.hid hh
    have k7 : (r.y != 0) = true := by simpa using h7
    clear h1 h2 h3 h4 h5 h6 h7 hh
    go_enter Tryz.func39, Tryz.ntmps39
    go_wp2_with (first
      | (go_at_call 60; refine (HFI.out _).mono ?_; rintro e w1 ⟨rfl, rfl⟩; rw [hf])
      | (go_at_call 61; refine (HFT.out _).mono ?_; rintro e w1 ⟨rfl, rfl⟩; rw [hc]))
    go_ret
    exact ⟨ret_int HH.out, HB.out.2⟩
  rw [if_neg (by simpa using h7)] at hh
  have HH := Lib.hid hh
  have k7 : (r.y != 0) = false := by simpa using h7
  clear h1 h2 h3 h4 h5 h6 h7 hh
  go_enter Tryz.func39, Tryz.ntmps39
  go_wp2_with (first
    | (go_at_call 60; refine (HFI.out _).mono ?_; rintro e w1 ⟨rfl, rfl⟩; rw [hf])
    | (go_at_call 61; refine (HFT.out _).mono ?_; rintro e w1 ⟨rfl, rfl⟩; rw [hc]))
  go_ret
  exact ⟨ret_int HH.out, HB.out.2⟩
end Go.Proofs.YtmjbbpappigngaaGreat
