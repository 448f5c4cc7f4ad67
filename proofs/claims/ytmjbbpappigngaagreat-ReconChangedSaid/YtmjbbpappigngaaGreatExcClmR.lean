/-
  Layer 43 (exchange): the walks of the reference's Amount, sum and Claims.
-/
import Derived.Test.YtmjbbpappigngaaGreatExcClmP
import Derived.Lib.QuietBelow
namespace Go.Proofs.YtmjbbpappigngaaGreat
open Go.RowKit Go.Tw Go.Tw.Exc
theorem after_ways (n : Int) (r : Rec) : ((r.k = 1 ∨ r.k = 2) ∧ afterC n r = n + r.c) ∨ (r.k = 4 ∧ afterC n r = n - r.c) ∨ (r.k = 3 ∧ afterC n r = 0) ∨ ((r.k ≠ 1 ∧ r.k ≠ 2 ∧ r.k ≠ 3 ∧ r.k ≠ 4) ∧ afterC n r = n) := by
  unfold afterC
  by_cases h1 : r.k = 1 ∨ r.k = 2
  · exact .inl ⟨h1, if_pos h1⟩
  · by_cases h2 : r.k = 4
    · exact .inr (.inl ⟨h2, by rw [if_neg h1, if_pos h2]⟩)
    · by_cases h3 : r.k = 3
      · exact .inr (.inr (.inl ⟨h3, by rw [if_neg h1, if_neg h2, if_pos h3]⟩))
      · exact .inr (.inr (.inr ⟨by omega, by rw [if_neg h1, if_neg h2, if_neg h3]⟩))
set_option maxRecDepth 100000 in
set_option maxHeartbeats 4000000 in
theorem amount_any (l : List Rec) (y : ByteArray) (v : Value) (w : World) (h : SlIs tRec (· < w.heap.size) w v l) (hlen : l.length ≤ 1000) (hc : ∀ r ∈ l, -1125899906842624 ≤ r.c ∧ r.c ≤ 1125899906842624) :
    Calls Tryz.prog 16 #[v, .string y] w fun e w' => e = .returned (.int .i64 (amountC l y)) ∧ w = w' := by
  obtain ⟨ao, cp, bb, off, rfl, h1, h2, ho⟩ := rec_open h
  unfold maxLen at h2
  have HAB := Lib.hid (amount_in hc y)
  have HCC := Lib.hid hc
  clear h hc
  go_enter Tryz.func16, Tryz.ntmps16
  go_wp2
  go_loopg [6, 5] l.length (fun g i s wr => ∃ (k : Nat) (n : Int), k + g = l.length ∧ i = .int .i64 k ∧ s = .int .i64 n ∧ Hid (n = amountC (l.take k) y) ∧ w = wr)
  case atStart => exact ⟨0, 0, by omega, rfl, rfl, Lib.hid rfl, rfl⟩
  case round =>
    obtain ⟨k, n, hk, rfl, rfl, HS, rfl⟩ := hrel
    by_cases hlt : k < l.length
    · obtain ⟨rfl, -, hbs, hok, d0, d1, d2, d3, d4⟩ := ho w (SameOn.refl _ _) k hlt
      have hb := HAB.out k (by omega)
      rw [← HS.out] at hb
      have hxc := HCC.out _ (List.getElem_mem hlt)
      have hst := amount_take hlt y
      rw [← HS.out] at hst
      have HST := Lib.hid hst
      obtain ⟨x, hx⟩ : ∃ x, l[k] = x := ⟨_, rfl⟩
      rw [hx] at d0 d1 d2 d3 d4 HST hxc
      have k0 : (0 : Int) ≤ (k : Int) := by omega
      have k1 : (k : Int) < (l.length : Int) := by omega
      clear hx hst hok ho
      by_cases hkey : x.key = y
      case neg =>
        have hq : (x.key.toList == y.toList) = false := by rw [str_eq]; simp [hkey]
        have HS2 := Lib.hid (show n = amountC (l.take (k + 1)) y by rw [HST.out, if_neg hkey])
        clear hkey hb hxc
        go_wp2
        go_roundg (l.length - (k + 1))
        case measure => omega
        case rel => exact ⟨k + 1, _, by omega, by go_num, rfl, HS2, rfl⟩
      have hq : (x.key.toList == y.toList) = true := by rw [str_eq]; simp [hkey]
      have HK := Lib.hid hkey
      have hw1 : IntKind.i64.wrap (n + x.c) = n + x.c := wrap_in (by omega) (by omega)
      have hw2 : IntKind.i64.wrap (n - x.c) = n - x.c := wrap_in (by omega) (by omega)
      clear hkey hb hxc
      rcases after_ways n x with ⟨e1, e2⟩ | ⟨e1, e2⟩ | ⟨e1, e2⟩ | ⟨e1, e2⟩
      · have HS2 := Lib.hid (show n + x.c = amountC (l.take (k + 1)) y by rw [HST.out, if_pos HK.out, e2])
        clear e2
        rcases e1 with e1 | e1
        · have q1 : (x.k == 1) = true := by rw [beq_iff_eq]; exact e1
          clear e1
          go_wp2
          go_roundg (l.length - (k + 1))
          case measure => omega
          case rel => exact ⟨k + 1, _, by omega, by go_num, rfl, HS2, rfl⟩
        · have q1 : (x.k == 1) = false := by rw [beq_eq_false_iff_ne]; omega
          have q2 : (x.k == 2) = true := by rw [beq_iff_eq]; exact e1
          clear e1
          go_wp2
          go_roundg (l.length - (k + 1))
          case measure => omega
          case rel => exact ⟨k + 1, _, by omega, by go_num, rfl, HS2, rfl⟩
      · have HS2 := Lib.hid (show n - x.c = amountC (l.take (k + 1)) y by rw [HST.out, if_pos HK.out, e2])
        clear e2
        have q1 : (x.k == 1) = false := by rw [beq_eq_false_iff_ne]; omega
        have q2 : (x.k == 2) = false := by rw [beq_eq_false_iff_ne]; omega
        have q4 : (x.k == 4) = true := by rw [beq_iff_eq]; exact e1
        clear e1
        go_wp2
        go_roundg (l.length - (k + 1))
        case measure => omega
        case rel => exact ⟨k + 1, _, by omega, by go_num, rfl, HS2, rfl⟩
      · have HS2 := Lib.hid (show 0 = amountC (l.take (k + 1)) y by rw [HST.out, if_pos HK.out, e2])
        clear e2
        have q1 : (x.k == 1) = false := by rw [beq_eq_false_iff_ne]; omega
        have q2 : (x.k == 2) = false := by rw [beq_eq_false_iff_ne]; omega
        have q4 : (x.k == 4) = false := by rw [beq_eq_false_iff_ne]; omega
        have q3 : (x.k == 3) = true := by rw [beq_iff_eq]; exact e1
        clear e1
        go_wp2
        go_roundg (l.length - (k + 1))
        case measure => omega
        case rel => exact ⟨k + 1, _, by omega, by go_num, rfl, HS2, rfl⟩
      · have HS2 := Lib.hid (show n = amountC (l.take (k + 1)) y by rw [HST.out, if_pos HK.out, e2])
        clear e2
        have q1 : (x.k == 1) = false := by rw [beq_eq_false_iff_ne]; omega
        have q2 : (x.k == 2) = false := by rw [beq_eq_false_iff_ne]; omega
        have q4 : (x.k == 4) = false := by rw [beq_eq_false_iff_ne]; omega
        have q3 : (x.k == 3) = false := by rw [beq_eq_false_iff_ne]; omega
        clear e1
        go_wp2
        go_roundg (l.length - (k + 1))
        case measure => omega
        case rel => exact ⟨k + 1, _, by omega, by go_num, rfl, HS2, rfl⟩
    · obtain rfl : k = l.length := by omega
      have hkd : decide ((l.length : Int) < (l.length : Int)) = false := by simp
      have HC := Lib.hid (show n = amountC l y by have := HS.out; rwa [List.take_length] at this)
      clear ho hlt
      go_wp2
      go_ret
      exact ⟨ret_int HC.out.symm, rfl⟩
end Go.Proofs.YtmjbbpappigngaaGreat
