/-
  Layer 14 (group): the law's apart.
-/
import Derived.Test.YtffpnbipacgidaaGrpV
import Derived.Test.YtffpnbipacgidaaGrpRP
namespace Go.Proofs.Ytffpnbipacgidaa
open Go.RowKit Go.Tw Go.Tw.Ord Go.Tw.Grp Go.Sort
set_option maxRecDepth 100000 in
set_option maxHeartbeats 4000000 in
theorem apart_any (A B : List Seen) (g : Int) (va vb : Value) (w : World) (ha : SlIs tSeen (· < w.heap.size) w va A) (hb : SlIs tSeen (· < w.heap.size) w vb B) (hta : ∀ a ∈ A, 0 ≤ a.tm) (htb : ∀ b ∈ B, 0 ≤ b.tm)
    (hp : ∀ a ∈ A, ∀ b ∈ B, a.pt = b.pt → ¬ (max a.tm b.tm - min a.tm b.tm ≤ g)) :
    Calls Try.prog 17 #[va, vb, .int .i64 g] w fun e w' => e = .returned (.bool true) ∧ GrB w w' := by
  obtain ⟨aa, ca, ba, oa, rfl, q1, q2, hao⟩ := seen_row ha
  obtain ⟨ab, cb, bb, ob, rfl, q3, q4, hbo⟩ := seen_row hb
  unfold maxLen at q2 q4
  have HA := Lib.hid hao
  have HB := Lib.hid hbo
  have HTA := Lib.hid hta
  have HTB := Lib.hid htb
  have HP := Lib.hid hp
  clear ha hb hao hbo hta htb hp
  go_enter Try.func17, Try.ntmps17
  go_wp2
  go_loopg [7] A.length (fun gx i wr => ∃ k : Nat, k + gx = A.length ∧ i = .int .i64 k ∧ GrB w wr)
  case atStart => exact ⟨0, by omega, rfl, GrB.refl _⟩
  case round =>
    obtain ⟨wo, rfl⟩ : ∃ wo : World, wo = wr := ⟨_, rfl⟩
    obtain ⟨k, hk, rfl, hg⟩ := hrel
    have HG := Lib.hid hg
    clear hg
    by_cases hlt : k < A.length
    · have k0 : (0 : Int) ≤ (k : Int) := by omega
      have k1 : (k : Int) < (A.length : Int) := by omega
      go_wp2
      go_loopg [8] B.length (fun gx i wr => ∃ j : Nat, j + gx = B.length ∧ i = .int .i64 j ∧ GrB wo wr)
      case atStart => exact ⟨0, by omega, rfl, GrB.refl _⟩
      case round =>
        obtain ⟨wi, rfl⟩ : ∃ wi : World, wi = wr := ⟨_, rfl⟩
        obtain ⟨j, hj, rfl, hgi⟩ := hrel
        have HGI := Lib.hid hgi
        by_cases hjl : j < B.length
        · obtain ⟨rfl, -, -, hok, hc⟩ := HA.out wi (.of_below (HG.out.trans hgi).below) k hlt
          obtain ⟨rfl, -, -, hok2, hc2⟩ := HB.out wi (.of_below (HG.out.trans hgi).below) j hjl
          have j0 : (0 : Int) ≤ (j : Int) := by omega
          have j1 : (j : Int) < (B.length : Int) := by omega
          have hx0 := HTA.out _ (List.getElem_mem hlt)
          have hy0 := HTB.out _ (List.getElem_mem hjl)
          have HPP := Lib.hid (HP.out _ (List.getElem_mem hlt) _ (List.getElem_mem hjl))
          generalize A[k] = x at hc hok hx0 HPP
          generalize B[j] = y at hc2 hok2 hy0 HPP
          have a7 := hc 7 (by decide)
          have a8 := hc 8 (by decide)
          have b7 := hc2 7 (by decide)
          have b8 := hc2 8 (by decide)
          rw [show (sCells x)[7]? = some (.int .i64 x.tm) from rfl] at a7
          rw [show (sCells x)[8]? = some (.string x.pt) from rfl] at a8
          rw [show (sCells y)[7]? = some (.int .i64 y.tm) from rfl] at b7
          rw [show (sCells y)[8]? = some (.string y.pt) from rfl] at b8
          have hxt := hok.tm
          have hyt := hok2.tm
          unfold i64ok at hxt hyt
          obtain ⟨tx, htx⟩ : ∃ t, x.tm = t := ⟨_, rfl⟩
          obtain ⟨ty, hty⟩ : ∃ t, y.tm = t := ⟨_, rfl⟩
          obtain ⟨px, hpx⟩ : ∃ t, x.pt = t := ⟨_, rfl⟩
          obtain ⟨py, hpy⟩ : ∃ t, y.pt = t := ⟨_, rfl⟩
          rw [htx] at a7 hx0 hxt HPP
          rw [hty] at b7 hy0 hyt HPP
          rw [hpx] at a8 HPP
          rw [hpy] at b8 HPP
          obtain ⟨d, hd⟩ : ∃ d, max tx ty - min tx ty = d := ⟨_, rfl⟩
          have hwd : IntKind.i64.wrap (max tx ty - min tx ty) = d := by rw [← hd]; exact wrap_in (by omega) (by omega)
          have hwd2 : wrap64 (max tx ty - min tx ty) = d := by rw [← hd]; unfold wrap64; omega
          rw [hd] at HPP
          clear hc hc2 hok hok2 hgi htx hty hpx hpy hx0 hy0 hxt hyt hd
          by_cases he : px = py
          · have he1 : (px.toList == py.toList) = true := by rw [eq_str]; simpa using he
            have hdd : decide (d ≤ g) = false := by rw [decide_eq_false_iff_not]; have := HPP.out he; omega
            go_wp2_with (go_quiet (fail))
            go_roundg (B.length - (j + 1))
            case measure => omega
            case rel => exact ⟨j + 1, by omega, by go_num, by have := HGI.out; (repeat (first | (with_reducible exact this) | (with_reducible apply GrB.drewN) | (with_reducible apply GrB.alloc) | (with_reducible apply GrB.drew)))⟩
          · have he1 : (px.toList == py.toList) = false := by rw [eq_str]; simpa using he
            go_wp2_with (go_quiet (fail))
            go_roundg (B.length - (j + 1))
            case measure => omega
            case rel => exact ⟨j + 1, by omega, by go_num, by have := HGI.out; (repeat (first | (with_reducible exact this) | (with_reducible apply GrB.drewN) | (with_reducible apply GrB.alloc) | (with_reducible apply GrB.drew)))⟩
        · have hkl : ¬ (j : Int) < (B.length : Int) := by omega
          clear hgi
          go_wp2
          go_roundg (A.length - (k + 1))
          case measure => omega
          case rel => exact ⟨k + 1, by omega, by go_num, HG.out.trans HGI.out⟩
    · have hkl : ¬ (k : Int) < (A.length : Int) := by omega
      go_wp2
      go_ret
      exact ⟨rfl, HG.out⟩
end Go.Proofs.Ytffpnbipacgidaa
