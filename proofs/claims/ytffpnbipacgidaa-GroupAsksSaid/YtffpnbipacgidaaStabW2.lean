/-
  slices.SortStableFunc at structs of k cells: the walk of rotate.
-/
import Derived.Test.YtffpnbipacgidaaStabW
namespace Go.Proofs.Ytffpnbipacgidaa
open Go.RowKit Go.Lib Go.Sort Go.Tw.Stab
section
variable {P : Program} {α : Type} [Inhabited α]
set_option maxHeartbeats 4000000 in
set_option maxRecDepth 1000000 in
theorem rotate_any {k : Nat} (L : StabL P k) (enc : α → List Value) (g : Nat) (cb : Array Value) (blk off cap a m b : Nat) (d0 d : Array α) (w0 w : World)
    (R : RowK enc k w0 blk off d0) (hs : d0.size = d.size) (S : SWK enc k w0 blk off d w) (ham : a < m) (hmb : m < b) (hb : b ≤ d.size) (hsz : d.size < 4611686018427387904) :
    Calls P 86 #[.slice (some ⟨blk, off, none⟩) d.size cap, .int .i64 a, .int .i64 m, .int .i64 b, .func (.func g) #[] cb] w fun e w' =>
      e = .returned (.tuple #[]) ∧ ∃ d', PermIn a b d d' ∧ Rot d a m b d' ∧ SWK enc k w0 blk off d' w' := by
  have mixed := L.mixed
  have ti := L.ti
  have ai := L.ai
  have zi := L.zi
  have vi := L.vi
  have tu := L.tu
  have au := L.au
  have zu := L.zu
  have tb := L.tb
  have ab := L.ab
  have zb := L.zb
  have vb := L.vb
  have ts := L.ts
  have asl := L.asl
  have zs := L.zs
  have vs := L.vs
  have af := L.af
  have zf := L.zf
  have aE := L.aE
  have zE := L.zE
  have FG := L.fRo
  have e88 := L.eSR
  have S0 : Aside (SWK enc k w0 blk off d w) := S
  clear S
  go_enter FG, Try.ntmps86
  go_wp2
  go_loopg [10, 11] (b - a) (fun gx si sj wr => ∃ (i j : Nat) (dk : Array α), si = .int .i64 i ∧ sj = .int .i64 j ∧ 0 < i ∧ 0 < j ∧ a + i ≤ m ∧ m + j ≤ b ∧ i + j ≤ gx ∧ Aside (SWK enc k w0 blk off dk wr) ∧ Aside (PermIn a b d dk ∧ ∀ d', Rot dk (m - i) m (m + j) d' → Rot d a m b d') ∧ dk.size = d.size)
  case atStart => exact ⟨m - a, b - m, d, by go_num, by go_num, by omega, by omega, by omega, by omega, by omega, S0, ⟨permIn_refl _ _ _, fun d' h => by rwa [show m - (m - a) = a by omega, show m + (b - m) = b by omega] at h⟩, rfl⟩
  case round =>
    clear S0
    obtain ⟨i, j, dk, rfl, rfl, hi, hj, hia, hjb, hg, S1, HP, hds⟩ := hrel
    have emi : ((m - i : Nat) : Int) = (m : Int) - (i : Int) := by omega
    by_cases hij : i = j
    · subst hij
      have hne : ((i : Int) != (i : Int)) = false := by simp
      have hcall := swapRange_any L enc g cb blk off cap (m - i) m i d0 dk w0 wr R (by omega) S1.out (by omega) (by omega) (by omega)
      rw [emi, hds] at hcall
      clear S1
      go_wp2_with (go_at_fn 88; refine hcall.mono ?_; rintro e w1 ⟨rfl, d1, q1, q2, q3⟩)
      go_end0
      exact ⟨rfl, d1, permIn_trans _ _ _ _ _ HP.out.1 (permIn_mono _ _ _ _ _ _ (by omega) (by omega) (by omega) q1), rot_eq HP.out.2 (by omega) q2, q3⟩
    · have hne : ((i : Int) != (j : Int)) = true := by simp; omega
      by_cases hgt : j < i
      · have hgt' : (j : Int) < (i : Int) := by omega
        have hcall := swapRange_any L enc g cb blk off cap (m - i) m j d0 dk w0 wr R (by omega) S1.out (by omega) (by omega) (by omega)
        rw [emi, hds] at hcall
        clear S1
        go_wp2_with (go_at_fn 88; refine hcall.mono ?_; rintro e w1 ⟨rfl, d1, q1, q2, q3⟩)
        go_roundg (i - j + j)
        case measure => omega
        case rel => exact ⟨i - j, j, d1, by go_num, rfl, by omega, hj, by omega, hjb, by omega, q3, ⟨permIn_trans _ _ _ _ _ HP.out.1 (permIn_mono _ _ _ _ _ _ (by omega) (by omega) (by omega) q1), fun d' h => rot_gt HP.out.2 hj hgt (by omega) q2 h⟩, by rw [q1.1]; exact hds⟩
      · have hgt' : ¬ (j : Int) < (i : Int) := by omega
        have emj : ((m + j - i : Nat) : Int) = (m : Int) + (j : Int) - (i : Int) := by omega
        have hcall := swapRange_any L enc g cb blk off cap (m - i) (m + j - i) i d0 dk w0 wr R (by omega) S1.out (by omega) (by omega) (by omega)
        rw [emi, emj, hds] at hcall
        clear S1
        go_wp2_with (go_at_fn 88; refine hcall.mono ?_; rintro e w1 ⟨rfl, d1, q1, q2, q3⟩)
        go_roundg (i + (j - i))
        case measure => omega
        case rel => exact ⟨i, j - i, d1, rfl, by go_num, hi, by omega, hia, by omega, by omega, q3, ⟨permIn_trans _ _ _ _ _ HP.out.1 (permIn_mono _ _ _ _ _ _ (by omega) (by omega) (by omega) q1), fun d' h => rot_lt HP.out.2 hi (by omega) (by omega) q2 h⟩, by rw [q1.1]; exact hds⟩
end
end Go.Proofs.Ytffpnbipacgidaa
