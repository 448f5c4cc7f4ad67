/-
  slices.SortStableFunc at structs of k cells: the walk of symMerge.
-/
import Derived.Test.YtelnnjofccldgaaGreatDoorMgC
import Derived.Deep.Cut
import Derived.Deep.CutBlock
import Derived.Deep.DeepCutAuto
import Derived.Lib.Hide
namespace Go.Proofs.YtelnnjofccldgaaGreatDoor
open Go.RowKit Go.Lib Go.Sort Go.Tw.Stab
section
variable {P : Program} {α : Type} [Inhabited α]
set_option maxHeartbeats 4000000 in
set_option maxRecDepth 1000000 in
theorem symMerge_any {k : Nat} (L : StabL P k) (enc : α → List Value) (cf : α → α → Int) (hO : SWO (ltOf cf)) (g : Nat) (cb : Array Value) (blk off cap : Nat) (d0 : Array α) (w0 : World)
    (eg : ∀ args w, (callFunc g args).run P w = .ok (.enter g args) w) (hcmp : CmpLays P g cb enc k cf blk off d0.size w0) (R : RowK enc k w0 blk off d0) :
    ∀ (N a m b : Nat) (d : Array α) (w : World), b - a ≤ N → d0.size = d.size → SWK enc k w0 blk off d w → a < m → m < b → b ≤ d.size → d.size < 4611686018427387904 → SortedIn (ltOf cf) a m d → SortedIn (ltOf cf) m b d →
    Calls P 114 #[.slice (some ⟨blk, off, none⟩) d.size cap, .int .i64 a, .int .i64 m, .int .i64 b, .func (.func g) #[] cb] w fun e w' =>
      e = .returned (.tuple #[]) ∧ ∃ d', PermIn a b d d' ∧ SortedIn (ltOf cf) a b d' ∧ SWK enc k w0 blk off d' w' := by
  intro N
  induction N with
  | zero => intro a m b d w h; omega
  | succ N ih =>
  intro a m b d w hN hs S ham hmb hb hsz hL hR
  have mixed := L.mixed
  have ti := L.ti
  have ai := L.ai
  have zi := L.zi
  have vi := L.vi
  have tu := L.tu
  have au := L.au
  have zu := L.zu
  have tb := L.tb
  have ab := L.ab
  have zb := L.zb
  have vb := L.vb
  have ts := L.ts
  have asl := L.asl
  have zs := L.zs
  have vs := L.vs
  have af := L.af
  have zf := L.zf
  have aE := L.aE
  have zE := L.zE
  have FG := L.fSM
  have e86 := L.eRo
  have e77 := L.eSM
  have HC : Aside (CmpLays P g cb enc k cf blk off d0.size w0) := hcmp
  have HL : Aside (SortedIn (ltOf cf) a m d ∧ SortedIn (ltOf cf) m b d) := ⟨hL, hR⟩
  have IH : Aside _ := ih
  have S0 : Aside (SWK enc k w0 blk off d w) := S
  clear S hL hR hcmp ih
  have HHL : Aside (SortedIn (ltOf cf) a m d ∧ SortedIn (ltOf cf) m b d) := HL
  by_cases h1 : m = a + 1
  · have hq : ((m : Int) - (a : Int) == 1) = true := by simp; omega
    have H1 := Lib.hid h1
    clear h1
    go_enter FG, Tryz.ntmps114
    go_wp2
    go_loopg [10, 11] (b - m) (fun gx si sj wr => ∃ (i j : Nat), si = .int .i64 i ∧ sj = .int .i64 j ∧ m ≤ i ∧ i ≤ j ∧ j ≤ b ∧ j - i ≤ gx ∧ Aside (SWK enc k w0 blk off d wr) ∧ Aside ((m < i → ltOf cf d[i - 1]! d[a]! = true) ∧ (j < b → ltOf cf d[j]! d[a]! = false)))
    case atStart => exact ⟨m, b, rfl, rfl, by omega, by omega, by omega, by omega, S0, fun h => by omega, fun h => by omega⟩
    case round =>
      clear S0
      obtain ⟨i, j, rfl, rfl, hi, hij, hj, hg, S1, HP⟩ := hrel
      by_cases hlt : i < j
      · have hlt' : (i : Int) < (j : Int) := by omega
        go_upto_region 5 with (fail)
        cases hT : ltOf cf d[(i + j) / 2]! d[a]! with
        | true =>
          have ea : (((i : Int) + (j : Int)) / 2).toNat = (i + j) / 2 := by omega
          have pa : (0 : Int) ≤ ((i : Int) + (j : Int)) / 2 := by omega
          have ba : ((i : Int) + (j : Int)) / 2 < (d.size : Int) := by omega
          have ra : IntKind.i64.wrap (((i : Int) + (j : Int)) / 2) = ((i : Int) + (j : Int)) / 2 := by rw [IntKind.wrap_i64]; omega
          have ec : ((a : Int)).toNat = a := by omega
          have pc : (0 : Int) ≤ (a : Int) := by omega
          have bc : (a : Int) < (d.size : Int) := by omega
          have rc : IntKind.i64.wrap ((a : Int)) = (a : Int) := by rw [IntKind.wrap_i64]; omega
          obtain ⟨xv, hxv⟩ : ∃ x, x = d[(i + j) / 2]! := ⟨_, rfl⟩
          obtain ⟨yv, hyv⟩ : ∃ x, x = d[a]! := ⟨_, rfl⟩
          have la := S1.out.ld R (by omega) P ((i + j) / 2) (by omega)
          have lb := S1.out.ld R (by omega) P (a) (by omega)
          rw [← hxv] at la
          rw [← hyv] at lb
          have hc := S1.out.cmp HC.out (by omega) xv yv
          have hT' := hT
          rw [← hxv, ← hyv] at hT'
          have hd : decide (cf xv yv < 0) = true := hT'
          have hv := of_decide_eq_true hd
          clear hxv hyv hT'
          have HT := Lib.hid hT
          clear hT
          go_wp2_with fail
          go_quiet_grown (first | (go_at_fn g; refine Calls.grown_of (hc _ _)))
          have S2 : Aside (SWK enc k w0 blk off d (grow (wr.drewN nq) osq)) := S1.out.grown nq osq
          have hT := HT.out
          clear la lb hc S1 ea pa ba ra ec pc bc rc hv hd HT
          generalize grow (wr.drewN nq) osq = w2 at S2 ⊢
          clear nq osq
          go_wp2_with fail
          go_roundg (j - ((i + j) / 2 + 1))
          case measure => omega
          case rel => exact ⟨(i + j) / 2 + 1, j, by go_num, rfl, by omega, by omega, by omega, by omega, S2, ⟨fun _ => by rw [Nat.add_sub_cancel]; exact hT, HP.out.2⟩⟩
        | false =>
          have ea : (((i : Int) + (j : Int)) / 2).toNat = (i + j) / 2 := by omega
          have pa : (0 : Int) ≤ ((i : Int) + (j : Int)) / 2 := by omega
          have ba : ((i : Int) + (j : Int)) / 2 < (d.size : Int) := by omega
          have ra : IntKind.i64.wrap (((i : Int) + (j : Int)) / 2) = ((i : Int) + (j : Int)) / 2 := by rw [IntKind.wrap_i64]; omega
          have ec : ((a : Int)).toNat = a := by omega
          have pc : (0 : Int) ≤ (a : Int) := by omega
          have bc : (a : Int) < (d.size : Int) := by omega
          have rc : IntKind.i64.wrap ((a : Int)) = (a : Int) := by rw [IntKind.wrap_i64]; omega
          obtain ⟨xv, hxv⟩ : ∃ x, x = d[(i + j) / 2]! := ⟨_, rfl⟩
          obtain ⟨yv, hyv⟩ : ∃ x, x = d[a]! := ⟨_, rfl⟩
          have la := S1.out.ld R (by omega) P ((i + j) / 2) (by omega)
          have lb := S1.out.ld R (by omega) P (a) (by omega)
          rw [← hxv] at la
          rw [← hyv] at lb
          have hc := S1.out.cmp HC.out (by omega) xv yv
          have hT' := hT
          rw [← hxv, ← hyv] at hT'
          have hd : decide (cf xv yv < 0) = false := hT'
          have hv := of_decide_eq_false hd
          clear hxv hyv hT'
          have HT := Lib.hid hT
          clear hT
          go_wp2_with fail
          go_quiet_grown (first | (go_at_fn g; refine Calls.grown_of (hc _ _)))
          have S2 : Aside (SWK enc k w0 blk off d (grow (wr.drewN nq) osq)) := S1.out.grown nq osq
          have hT := HT.out
          clear la lb hc S1 ea pa ba ra ec pc bc rc hv hd HT
          generalize grow (wr.drewN nq) osq = w2 at S2 ⊢
          clear nq osq
          go_wp2_with fail
          go_roundg ((i + j) / 2 - i)
          case measure => omega
          case rel => exact ⟨i, (i + j) / 2, rfl, by go_num, by omega, by omega, by omega, by omega, S2, ⟨HP.out.1, fun _ => hT⟩⟩
      · have hlt' : ¬ (i : Int) < (j : Int) := by omega
        obtain rfl : i = j := by omega
        clear hlt hij hg
        go_wp2_with fail
        go_loopg [13] (b - a) (fun gx sk wx => ∃ (kk : Nat) (dk : Array α), sk = .int .i64 kk ∧ a ≤ kk ∧ kk + 1 ≤ i ∧ i - kk ≤ gx ∧ dk.size = d.size ∧ Aside (SWK enc k w0 blk off dk wx) ∧ Aside (PermIn a b d dk ∧ Rot d a (a + 1) (kk + 1) dk))
        case atStart => exact ⟨a, d, rfl, by omega, by omega, by omega, rfl, S1, permIn_refl _ _ _, rot_self (by omega) (by omega) (.inr rfl)⟩
        case round =>
          clear S1
          obtain ⟨kk, dk, rfl, hka, hki, hkg, hds, S1, HQ⟩ := hrel
          by_cases hlt : kk + 1 < i
          · have hlt' : (kk : Int) < (i : Int) - 1 := by omega
            go_upto_region 11 with (fail)
            have ea : ((kk : Int)).toNat = kk := by omega
            have pa : (0 : Int) ≤ (kk : Int) := by omega
            have ba : (kk : Int) < (d.size : Int) := by omega
            have ra : IntKind.i64.wrap ((kk : Int)) = (kk : Int) := by rw [IntKind.wrap_i64]; omega
            have ec : ((kk : Int) + 1).toNat = kk + 1 := by omega
            have pc : (0 : Int) ≤ (kk : Int) + 1 := by omega
            have bc : (kk : Int) + 1 < (d.size : Int) := by omega
            have rc : IntKind.i64.wrap ((kk : Int) + 1) = (kk : Int) + 1 := by rw [IntKind.wrap_i64]; omega
            have S2 : Aside (SWK enc k w0 blk off (swp dk (kk) (kk + 1)) ((wr.drew.setCells blk (off + (kk) * k) (enc dk[kk + 1]!)).setCells blk (off + (kk + 1) * k) (enc dk[kk]!))) := S1.out.swapped R (kk) (kk + 1) (by omega) (by omega)
            have la := S1.out.ld1 R (by omega) P (kk) (by omega)
            have lb := S1.out.ld1 R (by omega) P (kk + 1) (by omega)
            have sa := S1.out.st1 R (by omega) P (kk) (by omega) dk[kk + 1]!
            have sb := S1.out.st2 R (by omega) P (kk) (kk + 1) (by omega) (by omega) dk[kk + 1]! dk[kk]!
            have na : (enc dk[kk]!).length = k := R.hk _
            have nb : (enc dk[kk + 1]!).length = k := R.hk _
            generalize enc dk[kk]! = cI at S2 la sb na
            generalize enc dk[kk + 1]! = cJ at S2 lb sa sb nb
            clear S1
            go_wp2_with fail
            go_big_region_o
            clear la lb sa sb ea pa ba ra ec pc bc rc na nb
            generalize (wr.drew.setCells blk (off + (kk) * k) cJ).setCells blk (off + (kk + 1) * k) cI = w2 at S2 ⊢
            go_wp2
            go_roundg (i - (kk + 1))
            case measure => omega
            case rel => exact ⟨kk + 1, _, by go_num, by omega, by omega, by omega, by rw [size_swp]; exact hds, S2, permIn_trans _ _ _ _ _ HQ.out.1 (swp_permIn _ _ _ _ _ (by omega) (by omega) (by omega) (by omega) (by omega)), rot_up HQ.out.2 hka hds (by omega)⟩
          · have hlt' : ¬ (kk : Int) < (i : Int) - 1 := by omega
            obtain rfl : i = kk + 1 := by omega
            go_wp2_with fail
            (try simp only [Exit.inBlock, Exit.then])
            refine bodyPost_ret (results_none rfl _ _ _) rfl ?_
            refine ⟨rfl, dk, HQ.out.1, ?_, S1.out⟩
            have h1 := H1.out
            subst h1
            exact one_left hO HHL.out.2 hi hj HP.out.1 HP.out.2 HQ.out.2
  · have hq : ((m : Int) - (a : Int) == 1) = false := by simp; omega
    by_cases h2 : b = m + 1
    · have hq2 : ((b : Int) - (m : Int) == 1) = true := by simp; omega
      have H2 := Lib.hid h2
      clear h1 h2
      go_enter FG, Tryz.ntmps114
      go_wp2
      go_loopg [14, 15] (m - a) (fun gx si sj wr => ∃ (i j : Nat), si = .int .i64 i ∧ sj = .int .i64 j ∧ a ≤ i ∧ i ≤ j ∧ j ≤ m ∧ j - i ≤ gx ∧ Aside (SWK enc k w0 blk off d wr) ∧ Aside ((a < i → ltOf cf d[m]! d[i - 1]! = false) ∧ (j < m → ltOf cf d[m]! d[j]! = true)))
      case atStart => exact ⟨a, m, rfl, rfl, by omega, by omega, by omega, by omega, S0, fun h => by omega, fun h => by omega⟩
      case round =>
        clear S0
        obtain ⟨i, j, rfl, rfl, hi, hij, hj, hg, S1, HP⟩ := hrel
        by_cases hlt : i < j
        · have hlt' : (i : Int) < (j : Int) := by omega
          go_upto_region 17 with (fail)
          cases hT : ltOf cf d[m]! d[(i + j) / 2]! with
          | true =>
            have ea : ((m : Int)).toNat = m := by omega
            have pa : (0 : Int) ≤ (m : Int) := by omega
            have ba : (m : Int) < (d.size : Int) := by omega
            have ra : IntKind.i64.wrap ((m : Int)) = (m : Int) := by rw [IntKind.wrap_i64]; omega
            have ec : (((i : Int) + (j : Int)) / 2).toNat = (i + j) / 2 := by omega
            have pc : (0 : Int) ≤ ((i : Int) + (j : Int)) / 2 := by omega
            have bc : ((i : Int) + (j : Int)) / 2 < (d.size : Int) := by omega
            have rc : IntKind.i64.wrap (((i : Int) + (j : Int)) / 2) = ((i : Int) + (j : Int)) / 2 := by rw [IntKind.wrap_i64]; omega
            obtain ⟨xv, hxv⟩ : ∃ x, x = d[m]! := ⟨_, rfl⟩
            obtain ⟨yv, hyv⟩ : ∃ x, x = d[(i + j) / 2]! := ⟨_, rfl⟩
            have la := S1.out.ld R (by omega) P (m) (by omega)
            have lb := S1.out.ld R (by omega) P ((i + j) / 2) (by omega)
            rw [← hxv] at la
            rw [← hyv] at lb
            have hc := S1.out.cmp HC.out (by omega) xv yv
            have hT' := hT
            rw [← hxv, ← hyv] at hT'
            have hd : decide (cf xv yv < 0) = true := hT'
            have hv := of_decide_eq_true hd
            clear hxv hyv hT'
            have HT := Lib.hid hT
            clear hT
            go_wp2_with fail
            go_quiet_grown (first | (go_at_fn g; refine Calls.grown_of (hc _ _)))
            have S2 : Aside (SWK enc k w0 blk off d (grow (wr.drewN nq) osq)) := S1.out.grown nq osq
            have hT := HT.out
            clear la lb hc S1 ea pa ba ra ec pc bc rc hv hd HT
            generalize grow (wr.drewN nq) osq = w2 at S2 ⊢
            clear nq osq
            go_wp2_with fail
            go_roundg ((i + j) / 2 - i)
            case measure => omega
            case rel => exact ⟨i, (i + j) / 2, rfl, by go_num, by omega, by omega, by omega, by omega, S2, ⟨HP.out.1, fun _ => hT⟩⟩
          | false =>
            have ea : ((m : Int)).toNat = m := by omega
            have pa : (0 : Int) ≤ (m : Int) := by omega
            have ba : (m : Int) < (d.size : Int) := by omega
            have ra : IntKind.i64.wrap ((m : Int)) = (m : Int) := by rw [IntKind.wrap_i64]; omega
            have ec : (((i : Int) + (j : Int)) / 2).toNat = (i + j) / 2 := by omega
            have pc : (0 : Int) ≤ ((i : Int) + (j : Int)) / 2 := by omega
            have bc : ((i : Int) + (j : Int)) / 2 < (d.size : Int) := by omega
            have rc : IntKind.i64.wrap (((i : Int) + (j : Int)) / 2) = ((i : Int) + (j : Int)) / 2 := by rw [IntKind.wrap_i64]; omega
            obtain ⟨xv, hxv⟩ : ∃ x, x = d[m]! := ⟨_, rfl⟩
            obtain ⟨yv, hyv⟩ : ∃ x, x = d[(i + j) / 2]! := ⟨_, rfl⟩
            have la := S1.out.ld R (by omega) P (m) (by omega)
            have lb := S1.out.ld R (by omega) P ((i + j) / 2) (by omega)
            rw [← hxv] at la
            rw [← hyv] at lb
            have hc := S1.out.cmp HC.out (by omega) xv yv
            have hT' := hT
            rw [← hxv, ← hyv] at hT'
            have hd : decide (cf xv yv < 0) = false := hT'
            have hv := of_decide_eq_false hd
            clear hxv hyv hT'
            have HT := Lib.hid hT
            clear hT
            go_wp2_with fail
            go_quiet_grown (first | (go_at_fn g; refine Calls.grown_of (hc _ _)))
            have S2 : Aside (SWK enc k w0 blk off d (grow (wr.drewN nq) osq)) := S1.out.grown nq osq
            have hT := HT.out
            clear la lb hc S1 ea pa ba ra ec pc bc rc hv hd HT
            generalize grow (wr.drewN nq) osq = w2 at S2 ⊢
            clear nq osq
            go_wp2_with fail
            go_roundg (j - ((i + j) / 2 + 1))
            case measure => omega
            case rel => exact ⟨(i + j) / 2 + 1, j, by go_num, rfl, by omega, by omega, by omega, by omega, S2, ⟨fun _ => by rw [Nat.add_sub_cancel]; exact hT, HP.out.2⟩⟩
        · have hlt' : ¬ (i : Int) < (j : Int) := by omega
          obtain rfl : i = j := by omega
          clear hlt hij hg
          go_wp2_with fail
          go_loopg [17] (m - a) (fun gx sk wx => ∃ (kk : Nat) (dk : Array α), sk = .int .i64 kk ∧ i ≤ kk ∧ kk ≤ m ∧ kk - i ≤ gx ∧ dk.size = d.size ∧ Aside (SWK enc k w0 blk off dk wx) ∧ Aside (PermIn a b d dk ∧ Rot d kk m (m + 1) dk))
          case atStart => exact ⟨m, d, rfl, by omega, by omega, by omega, rfl, S1, permIn_refl _ _ _, rot_self (by omega) (by omega) (.inl rfl)⟩
          case round =>
            clear S1
            obtain ⟨kk, dk, rfl, hki, hkm, hkg, hds, S1, HQ⟩ := hrel
            by_cases hlt : i < kk
            · have hlt' : (i : Int) < (kk : Int) := by omega
              obtain ⟨kp, rfl⟩ : ∃ kp, kk = kp + 1 := ⟨kk - 1, by omega⟩
              have hlt2 : (i : Int) < (kp : Int) + 1 := by omega
              go_upto_region 23 with (fail)
              have ea : ((kp : Int) + 1).toNat = kp + 1 := by omega
              have pa : (0 : Int) ≤ (kp : Int) + 1 := by omega
              have ba : (kp : Int) + 1 < (d.size : Int) := by omega
              have ra : IntKind.i64.wrap ((kp : Int) + 1) = (kp : Int) + 1 := by rw [IntKind.wrap_i64]; omega
              have ec : ((kp : Int)).toNat = kp := by omega
              have pc : (0 : Int) ≤ (kp : Int) := by omega
              have bc : (kp : Int) < (d.size : Int) := by omega
              have rc : IntKind.i64.wrap ((kp : Int)) = (kp : Int) := by rw [IntKind.wrap_i64]; omega
              have S2 : Aside (SWK enc k w0 blk off (swp dk (kp + 1) (kp)) ((wr.drew.setCells blk (off + (kp + 1) * k) (enc dk[kp]!)).setCells blk (off + (kp) * k) (enc dk[kp + 1]!))) := S1.out.swapped R (kp + 1) (kp) (by omega) (by omega)
              have la := S1.out.ld1 R (by omega) P (kp + 1) (by omega)
              have lb := S1.out.ld1 R (by omega) P (kp) (by omega)
              have sa := S1.out.st1 R (by omega) P (kp + 1) (by omega) dk[kp]!
              have sb := S1.out.st2 R (by omega) P (kp + 1) (kp) (by omega) (by omega) dk[kp]! dk[kp + 1]!
              have na : (enc dk[kp + 1]!).length = k := R.hk _
              have nb : (enc dk[kp]!).length = k := R.hk _
              generalize enc dk[kp + 1]! = cI at S2 la sb na
              generalize enc dk[kp]! = cJ at S2 lb sa sb nb
              clear S1
              go_wp2_with fail
              go_big_region_o
              clear la lb sa sb ea pa ba ra ec pc bc rc na nb
              generalize (wr.drew.setCells blk (off + (kp + 1) * k) cJ).setCells blk (off + (kp) * k) cI = w2 at S2 ⊢
              go_wp2
              go_roundg (kp - i)
              case measure => omega
              case rel => exact ⟨kp, _, by go_num, by omega, by omega, by omega, by rw [size_swp]; exact hds, S2, permIn_trans _ _ _ _ _ HQ.out.1 (swp_permIn _ _ _ _ _ (by omega) (by omega) (by omega) (by omega) (by omega)), rot_down HQ.out.2 (by omega) hds (by omega)⟩
            · have hlt' : ¬ (i : Int) < (kk : Int) := by omega
              obtain rfl : i = kk := by omega
              go_wp2_with fail
              (try simp only [Exit.inBlock, Exit.then])
              refine bodyPost_ret (results_none rfl _ _ _) rfl ?_
              refine ⟨rfl, dk, HQ.out.1, ?_, S1.out⟩
              have h2 := H2.out
              subst h2
              exact one_right hO HHL.out.1 hi hj HP.out.1 HP.out.2 HQ.out.2
    · have hq2 : ((b : Int) - (m : Int) == 1) = false := by simp; omega
      obtain ⟨mid, hmid, hm1, hm2⟩ : ∃ mid : Nat, ((a : Int) + (b : Int)) / 2 = (mid : Int) ∧ 2 * mid ≤ a + b ∧ a + b ≤ 2 * mid + 1 := ⟨(a + b) / 2, by omega, by omega, by omega⟩
      by_cases hmm : mid < m
      · have hmm' : (mid : Int) < (m : Int) := by omega
        go_enter FG, Tryz.ntmps114
        go_upto_region 32 with (fail)
        clear hmid h1 h2 hq hq2
        go_wp2_with fail
        go_loopg [20, 21] (b - a) (fun gx ss sr wr => ∃ (s r : Nat), ss = .int .i64 s ∧ sr = .int .i64 r ∧ a ≤ s ∧ s ≤ r ∧ r ≤ m ∧ r ≤ mid ∧ mid + m ≤ b + s ∧ r - s ≤ gx ∧ Aside (SWK enc k w0 blk off d wr) ∧ Aside ((a < s → mid + m - s < b → ltOf cf d[mid + m - s]! d[s - 1]! = false) ∧ (r < m → m < mid + m - r → ltOf cf d[mid + m - r - 1]! d[r]! = true)))
        case atStart => exact ⟨mid + m - b, mid, by go_num, rfl, by omega, by omega, by omega, by omega, by omega, by omega, S0, fun _ h => by omega, fun _ h => by omega⟩
        case round =>
          clear S0
          obtain ⟨s, r, rfl, rfl, hi, hij, hj, hj2, hbs, hg, S1, HP⟩ := hrel
          by_cases hlt : s < r
          · have hlt' : (s : Int) < (r : Int) := by omega
            obtain ⟨c, hc0, hc1, hc2, hc3⟩ : ∃ c : Nat, ((s : Int) + (r : Int)) / 2 = (c : Int) ∧ s ≤ c ∧ c < r ∧ c = (s + r) / 2 := ⟨(s + r) / 2, by omega, by omega, by omega, rfl⟩
            clear hc3
            obtain ⟨q, hq0, hq1⟩ : ∃ q : Nat, (mid : Int) + (m : Int) - 1 - (c : Int) = (q : Int) ∧ q + c + 1 = mid + m := ⟨mid + m - 1 - c, by omega, by omega⟩
            go_upto_region 35 with (fail)
            cases hT : ltOf cf d[q]! d[c]! with
            | true =>
              have ea : ((q : Int)).toNat = q := by omega
              have pa : (0 : Int) ≤ (q : Int) := by omega
              have ba : (q : Int) < (d.size : Int) := by omega
              have ra : IntKind.i64.wrap ((q : Int)) = (q : Int) := by rw [IntKind.wrap_i64]; omega
              have ec : ((c : Int)).toNat = c := by omega
              have pc : (0 : Int) ≤ (c : Int) := by omega
              have bc : (c : Int) < (d.size : Int) := by omega
              have rc : IntKind.i64.wrap ((c : Int)) = (c : Int) := by rw [IntKind.wrap_i64]; omega
              obtain ⟨xv, hxv⟩ : ∃ x, x = d[q]! := ⟨_, rfl⟩
              obtain ⟨yv, hyv⟩ : ∃ x, x = d[c]! := ⟨_, rfl⟩
              have la := S1.out.ld R (by omega) P (q) (by omega)
              have lb := S1.out.ld R (by omega) P (c) (by omega)
              rw [← hxv] at la
              rw [← hyv] at lb
              have hc := S1.out.cmp HC.out (by omega) xv yv
              have hT' := hT
              rw [← hxv, ← hyv] at hT'
              have hd : decide (cf xv yv < 0) = true := hT'
              have hv := of_decide_eq_true hd
              clear hxv hyv hT'
              have HT := Lib.hid hT
              clear hT
              go_wp2_with fail
              go_quiet_grown (first | (go_at_fn g; refine Calls.grown_of (hc _ _)))
              have S2 : Aside (SWK enc k w0 blk off d (grow (wr.drewN nq) osq)) := S1.out.grown nq osq
              have hT := HT.out
              clear la lb hc S1 ea pa ba ra ec pc bc rc hv hd HT
              generalize grow (wr.drewN nq) osq = w2 at S2 ⊢
              clear nq osq
              clear hc0 hq0
              go_wp2_with fail
              go_roundg (c - s)
              case measure => omega
              case rel => exact ⟨s, c, rfl, rfl, by omega, by omega, by omega, by omega, by omega, by omega, S2, HP.out.1, fun _ _ => by rw [show mid + m - c - 1 = q by omega]; exact hT⟩
            | false =>
              have ea : ((q : Int)).toNat = q := by omega
              have pa : (0 : Int) ≤ (q : Int) := by omega
              have ba : (q : Int) < (d.size : Int) := by omega
              have ra : IntKind.i64.wrap ((q : Int)) = (q : Int) := by rw [IntKind.wrap_i64]; omega
              have ec : ((c : Int)).toNat = c := by omega
              have pc : (0 : Int) ≤ (c : Int) := by omega
              have bc : (c : Int) < (d.size : Int) := by omega
              have rc : IntKind.i64.wrap ((c : Int)) = (c : Int) := by rw [IntKind.wrap_i64]; omega
              obtain ⟨xv, hxv⟩ : ∃ x, x = d[q]! := ⟨_, rfl⟩
              obtain ⟨yv, hyv⟩ : ∃ x, x = d[c]! := ⟨_, rfl⟩
              have la := S1.out.ld R (by omega) P (q) (by omega)
              have lb := S1.out.ld R (by omega) P (c) (by omega)
              rw [← hxv] at la
              rw [← hyv] at lb
              have hc := S1.out.cmp HC.out (by omega) xv yv
              have hT' := hT
              rw [← hxv, ← hyv] at hT'
              have hd : decide (cf xv yv < 0) = false := hT'
              have hv := of_decide_eq_false hd
              clear hxv hyv hT'
              have HT := Lib.hid hT
              clear hT
              go_wp2_with fail
              go_quiet_grown (first | (go_at_fn g; refine Calls.grown_of (hc _ _)))
              have S2 : Aside (SWK enc k w0 blk off d (grow (wr.drewN nq) osq)) := S1.out.grown nq osq
              have hT := HT.out
              clear la lb hc S1 ea pa ba ra ec pc bc rc hv hd HT
              generalize grow (wr.drewN nq) osq = w2 at S2 ⊢
              clear nq osq
              clear hc0 hq0
              go_wp2_with fail
              go_roundg (r - (c + 1))
              case measure => omega
              case rel => exact ⟨c + 1, r, by go_num, rfl, by omega, by omega, by omega, by omega, by omega, by omega, S2, fun _ _ => by rw [Nat.add_sub_cancel, show mid + m - (c + 1) = q by omega]; exact hT, HP.out.2⟩
          · have hlt' : ¬ (s : Int) < (r : Int) := by omega
            obtain rfl : s = r := by omega
            obtain ⟨e, hE, he⟩ : ∃ e : Nat, (mid : Int) + (m : Int) - (s : Int) = (e : Int) ∧ s + e = mid + m := ⟨mid + m - s, by omega, by omega⟩
            have HM : Aside (∀ d1, Rot d s m e d1 → SortedIn (ltOf cf) a s d1 ∧ SortedIn (ltOf cf) s mid d1 ∧ SortedIn (ltOf cf) mid e d1 ∧ SortedIn (ltOf cf) e b d1 ∧ ∀ i j, a ≤ i → i < mid → mid ≤ j → j < b → ltOf cf d1[j]! d1[i]! = false) := fun d1 h => merge_ready hO HHL.out.1 HHL.out.2 hi hj (by omega) (by omega) he (fun h1 h2 => by have := HP.out.1 h1 (by omega); rwa [show mid + m - s = e by omega] at this) (fun h1 h2 => by have := HP.out.2 h1 (by omega); rwa [show mid + m - s - 1 = e - 1 by omega] at this) h
            clear hlt hij hg HP
            by_cases g1 : s < m
            · by_cases g2 : m < e
              · have g1' : (s : Int) < (m : Int) := by omega
                have g2' : (m : Int) < (e : Int) := by omega
                have hcall := rotate_any L enc g cb blk off cap s m e d0 d w0 wr R (by omega) S1.out (by omega) (by omega) (by omega) (by omega)
                clear S1
                go_upto_region 41 with (go_at_fn 132; refine hcall.mono ?_; rintro e w1 ⟨rfl, d1, q1, hrot, S2⟩)
                have HP1 := permIn_mono _ _ _ _ a b (by omega) (by omega) (by omega) q1
                clear q1 hcall
                have HT := Lib.hid (HM.out d1 hrot)
                have hs1 : d1.size = d.size := HP1.1
                have S3 := Lib.hid S2
                clear hrot S2
                by_cases g3 : a < s
                · by_cases g4 : s < mid
                  · try (exfalso; omega)
                    all_goals
                      have g3' : (a : Int) < (s : Int) := by omega
                      have g4' : (s : Int) < (mid : Int) := by omega
                      have hcall := IH.out a s mid d1 _ (by omega) (by omega) S3.out g3 g4 (by omega) (by omega) HT.out.1 HT.out.2.1
                      rw [hs1] at hcall
                      have HS1 := Lib.hid hs1
                      clear S3 hs1
                      go_upto_region 43 with (go_at_fn 114; refine hcall.mono ?_; rintro e w1 ⟨rfl, d2, HP2, HQ2, S2⟩)
                      have S3 := Lib.hid S2
                      clear S2 hcall
                      have hs2 : d2.size = d.size := HP2.1.trans HS1.out
                      have HE2 := Lib.hid (show SortedIn (ltOf cf) mid e d2 ∧ SortedIn (ltOf cf) e b d2 from ⟨sorted_congr HT.out.2.2.1 fun i h1 _ => HP2.2.1 i (.inr h1), sorted_congr HT.out.2.2.2.1 fun i h1 _ => HP2.2.1 i (.inr (by omega))⟩)
                      have HFin := Lib.hid (show ∀ d3, PermIn mid b d2 d3 → SortedIn (ltOf cf) mid b d3 → PermIn a b d d3 ∧ SortedIn (ltOf cf) a b d3 from fun d3 h1 h2 => by
                        have hs1 := HS1.out
                        have := merge_done (by omega) (by omega) (by omega) HT.out.2.2.2.2 HP2 HQ2 h1 h2
                        exact ⟨permIn_trans _ _ _ _ _ HP1 this.1, this.2⟩)
                      have HS2 := Lib.hid hs2
                      clear HP2 HQ2 hs2
                      by_cases g5 : mid < e
                      · by_cases g6 : e < b
                        · try (exfalso; omega)
                          all_goals
                            have g5' : (mid : Int) < (e : Int) := by omega
                            have g6' : (e : Int) < (b : Int) := by omega
                            have hcall := IH.out mid e b d2 _ (by omega) (by rw [HS2.out]; omega) S3.out g5 g6 (by rw [HS2.out]; omega) (by rw [HS2.out]; omega) HE2.out.1 HE2.out.2
                            rw [HS2.out] at hcall
                            clear S3
                            go_wp2_with (go_at_fn 114; refine hcall.mono ?_; rintro e w1 ⟨rfl, d3, q1, q2, q3⟩)
                            go_end0
                            exact ⟨rfl, d3, (HFin.out d3 q1 q2).1, (HFin.out d3 q1 q2).2, q3⟩
                        · try (exfalso; omega)
                          all_goals
                            have g5' : (mid : Int) < (e : Int) := by omega
                            have g6' : ¬ (e : Int) < (b : Int) := by omega
                            have HF := Lib.hid (HFin.out d2 (permIn_refl _ _ _) (by rw [show b = e by omega]; exact HE2.out.1))
                            go_wp2_with fail
                            go_end0
                            exact ⟨rfl, d2, HF.out.1, HF.out.2, S3.out⟩
                      · try (exfalso; omega)
                        all_goals
                          have g5' : ¬ (mid : Int) < (e : Int) := by omega
                          have HF := Lib.hid (HFin.out d2 (permIn_refl _ _ _) (by rw [show mid = e by omega]; exact HE2.out.2))
                          go_wp2_with fail
                          go_end0
                          exact ⟨rfl, d2, HF.out.1, HF.out.2, S3.out⟩
                  · try (exfalso; omega)
                    all_goals
                      have g3' : (a : Int) < (s : Int) := by omega
                      have g4' : ¬ (s : Int) < (mid : Int) := by omega
                      have HP2 := permIn_refl d1 a mid
                      have HQ2 : SortedIn (ltOf cf) a mid d1 := by rw [show mid = s by omega]; exact HT.out.1
                      have HS1 := Lib.hid hs1
                      clear hs1
                      obtain ⟨d2, hd2⟩ : ∃ d2, d2 = d1 := ⟨_, rfl⟩
                      rw [show PermIn a mid d1 d1 = PermIn a mid d1 d2 by rw [hd2]] at HP2
                      rw [← hd2] at S3 HQ2
                      clear hd2
                      go_upto_region 43 with (fail)
                      have hs2 : d2.size = d.size := HP2.1.trans HS1.out
                      have HE2 := Lib.hid (show SortedIn (ltOf cf) mid e d2 ∧ SortedIn (ltOf cf) e b d2 from ⟨sorted_congr HT.out.2.2.1 fun i h1 _ => HP2.2.1 i (.inr h1), sorted_congr HT.out.2.2.2.1 fun i h1 _ => HP2.2.1 i (.inr (by omega))⟩)
                      have HFin := Lib.hid (show ∀ d3, PermIn mid b d2 d3 → SortedIn (ltOf cf) mid b d3 → PermIn a b d d3 ∧ SortedIn (ltOf cf) a b d3 from fun d3 h1 h2 => by
                        have hs1 := HS1.out
                        have := merge_done (by omega) (by omega) (by omega) HT.out.2.2.2.2 HP2 HQ2 h1 h2
                        exact ⟨permIn_trans _ _ _ _ _ HP1 this.1, this.2⟩)
                      have HS2 := Lib.hid hs2
                      clear HP2 HQ2 hs2
                      by_cases g5 : mid < e
                      · by_cases g6 : e < b
                        · try (exfalso; omega)
                          all_goals
                            have g5' : (mid : Int) < (e : Int) := by omega
                            have g6' : (e : Int) < (b : Int) := by omega
                            have hcall := IH.out mid e b d2 _ (by omega) (by rw [HS2.out]; omega) S3.out g5 g6 (by rw [HS2.out]; omega) (by rw [HS2.out]; omega) HE2.out.1 HE2.out.2
                            rw [HS2.out] at hcall
                            clear S3
                            go_wp2_with (go_at_fn 114; refine hcall.mono ?_; rintro e w1 ⟨rfl, d3, q1, q2, q3⟩)
                            go_end0
                            exact ⟨rfl, d3, (HFin.out d3 q1 q2).1, (HFin.out d3 q1 q2).2, q3⟩
                        · try (exfalso; omega)
                          all_goals
                            have g5' : (mid : Int) < (e : Int) := by omega
                            have g6' : ¬ (e : Int) < (b : Int) := by omega
                            have HF := Lib.hid (HFin.out d2 (permIn_refl _ _ _) (by rw [show b = e by omega]; exact HE2.out.1))
                            go_wp2_with fail
                            go_end0
                            exact ⟨rfl, d2, HF.out.1, HF.out.2, S3.out⟩
                      · try (exfalso; omega)
                        all_goals
                          have g5' : ¬ (mid : Int) < (e : Int) := by omega
                          have HF := Lib.hid (HFin.out d2 (permIn_refl _ _ _) (by rw [show mid = e by omega]; exact HE2.out.2))
                          go_wp2_with fail
                          go_end0
                          exact ⟨rfl, d2, HF.out.1, HF.out.2, S3.out⟩
                · try (exfalso; omega)
                  all_goals
                    have g3' : ¬ (a : Int) < (s : Int) := by omega
                    have HP2 := permIn_refl d1 a mid
                    have HQ2 : SortedIn (ltOf cf) a mid d1 := by rw [show a = s by omega]; exact HT.out.2.1
                    have HS1 := Lib.hid hs1
                    clear hs1
                    obtain ⟨d2, hd2⟩ : ∃ d2, d2 = d1 := ⟨_, rfl⟩
                    rw [show PermIn a mid d1 d1 = PermIn a mid d1 d2 by rw [hd2]] at HP2
                    rw [← hd2] at S3 HQ2
                    clear hd2
                    go_upto_region 43 with (fail)
                    have hs2 : d2.size = d.size := HP2.1.trans HS1.out
                    have HE2 := Lib.hid (show SortedIn (ltOf cf) mid e d2 ∧ SortedIn (ltOf cf) e b d2 from ⟨sorted_congr HT.out.2.2.1 fun i h1 _ => HP2.2.1 i (.inr h1), sorted_congr HT.out.2.2.2.1 fun i h1 _ => HP2.2.1 i (.inr (by omega))⟩)
                    have HFin := Lib.hid (show ∀ d3, PermIn mid b d2 d3 → SortedIn (ltOf cf) mid b d3 → PermIn a b d d3 ∧ SortedIn (ltOf cf) a b d3 from fun d3 h1 h2 => by
                      have hs1 := HS1.out
                      have := merge_done (by omega) (by omega) (by omega) HT.out.2.2.2.2 HP2 HQ2 h1 h2
                      exact ⟨permIn_trans _ _ _ _ _ HP1 this.1, this.2⟩)
                    have HS2 := Lib.hid hs2
                    clear HP2 HQ2 hs2
                    by_cases g5 : mid < e
                    · by_cases g6 : e < b
                      · try (exfalso; omega)
                        all_goals
                          have g5' : (mid : Int) < (e : Int) := by omega
                          have g6' : (e : Int) < (b : Int) := by omega
                          have hcall := IH.out mid e b d2 _ (by omega) (by rw [HS2.out]; omega) S3.out g5 g6 (by rw [HS2.out]; omega) (by rw [HS2.out]; omega) HE2.out.1 HE2.out.2
                          rw [HS2.out] at hcall
                          clear S3
                          go_wp2_with (go_at_fn 114; refine hcall.mono ?_; rintro e w1 ⟨rfl, d3, q1, q2, q3⟩)
                          go_end0
                          exact ⟨rfl, d3, (HFin.out d3 q1 q2).1, (HFin.out d3 q1 q2).2, q3⟩
                      · try (exfalso; omega)
                        all_goals
                          have g5' : (mid : Int) < (e : Int) := by omega
                          have g6' : ¬ (e : Int) < (b : Int) := by omega
                          have HF := Lib.hid (HFin.out d2 (permIn_refl _ _ _) (by rw [show b = e by omega]; exact HE2.out.1))
                          go_wp2_with fail
                          go_end0
                          exact ⟨rfl, d2, HF.out.1, HF.out.2, S3.out⟩
                    · try (exfalso; omega)
                      all_goals
                        have g5' : ¬ (mid : Int) < (e : Int) := by omega
                        have HF := Lib.hid (HFin.out d2 (permIn_refl _ _ _) (by rw [show mid = e by omega]; exact HE2.out.2))
                        go_wp2_with fail
                        go_end0
                        exact ⟨rfl, d2, HF.out.1, HF.out.2, S3.out⟩
              · have g1' : (s : Int) < (m : Int) := by omega
                have g2' : ¬ (m : Int) < (e : Int) := by omega
                have hrot := rot_self (d := d) (x := s) (m := m) (y := e) (by omega) (by omega) (.inr (by omega))
                have HP1 := permIn_refl d a b
                have S2 := S1.out
                clear S1
                obtain ⟨d1, hd1⟩ : ∃ d1, d1 = d := ⟨_, rfl⟩
                rw [show Rot d s m e d = Rot d s m e d1 by rw [hd1]] at hrot
                rw [show PermIn a b d d = PermIn a b d d1 by rw [hd1]] at HP1
                rw [← hd1] at S2
                clear hd1
                go_upto_region 41 with (fail)
                have HT := Lib.hid (HM.out d1 hrot)
                have hs1 : d1.size = d.size := HP1.1
                have S3 := Lib.hid S2
                clear hrot S2
                by_cases g3 : a < s
                · by_cases g4 : s < mid
                  · try (exfalso; omega)
                    all_goals
                      have g3' : (a : Int) < (s : Int) := by omega
                      have g4' : (s : Int) < (mid : Int) := by omega
                      have hcall := IH.out a s mid d1 _ (by omega) (by omega) S3.out g3 g4 (by omega) (by omega) HT.out.1 HT.out.2.1
                      rw [hs1] at hcall
                      have HS1 := Lib.hid hs1
                      clear S3 hs1
                      go_upto_region 43 with (go_at_fn 114; refine hcall.mono ?_; rintro e w1 ⟨rfl, d2, HP2, HQ2, S2⟩)
                      have S3 := Lib.hid S2
                      clear S2 hcall
                      have hs2 : d2.size = d.size := HP2.1.trans HS1.out
                      have HE2 := Lib.hid (show SortedIn (ltOf cf) mid e d2 ∧ SortedIn (ltOf cf) e b d2 from ⟨sorted_congr HT.out.2.2.1 fun i h1 _ => HP2.2.1 i (.inr h1), sorted_congr HT.out.2.2.2.1 fun i h1 _ => HP2.2.1 i (.inr (by omega))⟩)
                      have HFin := Lib.hid (show ∀ d3, PermIn mid b d2 d3 → SortedIn (ltOf cf) mid b d3 → PermIn a b d d3 ∧ SortedIn (ltOf cf) a b d3 from fun d3 h1 h2 => by
                        have hs1 := HS1.out
                        have := merge_done (by omega) (by omega) (by omega) HT.out.2.2.2.2 HP2 HQ2 h1 h2
                        exact ⟨permIn_trans _ _ _ _ _ HP1 this.1, this.2⟩)
                      have HS2 := Lib.hid hs2
                      clear HP2 HQ2 hs2
                      by_cases g5 : mid < e
                      · by_cases g6 : e < b
                        · try (exfalso; omega)
                          all_goals
                            have g5' : (mid : Int) < (e : Int) := by omega
                            have g6' : (e : Int) < (b : Int) := by omega
                            have hcall := IH.out mid e b d2 _ (by omega) (by rw [HS2.out]; omega) S3.out g5 g6 (by rw [HS2.out]; omega) (by rw [HS2.out]; omega) HE2.out.1 HE2.out.2
                            rw [HS2.out] at hcall
                            clear S3
                            go_wp2_with (go_at_fn 114; refine hcall.mono ?_; rintro e w1 ⟨rfl, d3, q1, q2, q3⟩)
                            go_end0
                            exact ⟨rfl, d3, (HFin.out d3 q1 q2).1, (HFin.out d3 q1 q2).2, q3⟩
                        · try (exfalso; omega)
                          all_goals
                            have g5' : (mid : Int) < (e : Int) := by omega
                            have g6' : ¬ (e : Int) < (b : Int) := by omega
                            have HF := Lib.hid (HFin.out d2 (permIn_refl _ _ _) (by rw [show b = e by omega]; exact HE2.out.1))
                            go_wp2_with fail
                            go_end0
                            exact ⟨rfl, d2, HF.out.1, HF.out.2, S3.out⟩
                      · try (exfalso; omega)
                        all_goals
                          have g5' : ¬ (mid : Int) < (e : Int) := by omega
                          have HF := Lib.hid (HFin.out d2 (permIn_refl _ _ _) (by rw [show mid = e by omega]; exact HE2.out.2))
                          go_wp2_with fail
                          go_end0
                          exact ⟨rfl, d2, HF.out.1, HF.out.2, S3.out⟩
                  · try (exfalso; omega)
                    all_goals
                      have g3' : (a : Int) < (s : Int) := by omega
                      have g4' : ¬ (s : Int) < (mid : Int) := by omega
                      have HP2 := permIn_refl d1 a mid
                      have HQ2 : SortedIn (ltOf cf) a mid d1 := by rw [show mid = s by omega]; exact HT.out.1
                      have HS1 := Lib.hid hs1
                      clear hs1
                      obtain ⟨d2, hd2⟩ : ∃ d2, d2 = d1 := ⟨_, rfl⟩
                      rw [show PermIn a mid d1 d1 = PermIn a mid d1 d2 by rw [hd2]] at HP2
                      rw [← hd2] at S3 HQ2
                      clear hd2
                      go_upto_region 43 with (fail)
                      have hs2 : d2.size = d.size := HP2.1.trans HS1.out
                      have HE2 := Lib.hid (show SortedIn (ltOf cf) mid e d2 ∧ SortedIn (ltOf cf) e b d2 from ⟨sorted_congr HT.out.2.2.1 fun i h1 _ => HP2.2.1 i (.inr h1), sorted_congr HT.out.2.2.2.1 fun i h1 _ => HP2.2.1 i (.inr (by omega))⟩)
                      have HFin := Lib.hid (show ∀ d3, PermIn mid b d2 d3 → SortedIn (ltOf cf) mid b d3 → PermIn a b d d3 ∧ SortedIn (ltOf cf) a b d3 from fun d3 h1 h2 => by
                        have hs1 := HS1.out
                        have := merge_done (by omega) (by omega) (by omega) HT.out.2.2.2.2 HP2 HQ2 h1 h2
                        exact ⟨permIn_trans _ _ _ _ _ HP1 this.1, this.2⟩)
                      have HS2 := Lib.hid hs2
                      clear HP2 HQ2 hs2
                      by_cases g5 : mid < e
                      · by_cases g6 : e < b
                        · try (exfalso; omega)
                          all_goals
                            have g5' : (mid : Int) < (e : Int) := by omega
                            have g6' : (e : Int) < (b : Int) := by omega
                            have hcall := IH.out mid e b d2 _ (by omega) (by rw [HS2.out]; omega) S3.out g5 g6 (by rw [HS2.out]; omega) (by rw [HS2.out]; omega) HE2.out.1 HE2.out.2
                            rw [HS2.out] at hcall
                            clear S3
                            go_wp2_with (go_at_fn 114; refine hcall.mono ?_; rintro e w1 ⟨rfl, d3, q1, q2, q3⟩)
                            go_end0
                            exact ⟨rfl, d3, (HFin.out d3 q1 q2).1, (HFin.out d3 q1 q2).2, q3⟩
                        · try (exfalso; omega)
                          all_goals
                            have g5' : (mid : Int) < (e : Int) := by omega
                            have g6' : ¬ (e : Int) < (b : Int) := by omega
                            have HF := Lib.hid (HFin.out d2 (permIn_refl _ _ _) (by rw [show b = e by omega]; exact HE2.out.1))
                            go_wp2_with fail
                            go_end0
                            exact ⟨rfl, d2, HF.out.1, HF.out.2, S3.out⟩
                      · try (exfalso; omega)
                        all_goals
                          have g5' : ¬ (mid : Int) < (e : Int) := by omega
                          have HF := Lib.hid (HFin.out d2 (permIn_refl _ _ _) (by rw [show mid = e by omega]; exact HE2.out.2))
                          go_wp2_with fail
                          go_end0
                          exact ⟨rfl, d2, HF.out.1, HF.out.2, S3.out⟩
                · try (exfalso; omega)
                  all_goals
                    have g3' : ¬ (a : Int) < (s : Int) := by omega
                    have HP2 := permIn_refl d1 a mid
                    have HQ2 : SortedIn (ltOf cf) a mid d1 := by rw [show a = s by omega]; exact HT.out.2.1
                    have HS1 := Lib.hid hs1
                    clear hs1
                    obtain ⟨d2, hd2⟩ : ∃ d2, d2 = d1 := ⟨_, rfl⟩
                    rw [show PermIn a mid d1 d1 = PermIn a mid d1 d2 by rw [hd2]] at HP2
                    rw [← hd2] at S3 HQ2
                    clear hd2
                    go_upto_region 43 with (fail)
                    have hs2 : d2.size = d.size := HP2.1.trans HS1.out
                    have HE2 := Lib.hid (show SortedIn (ltOf cf) mid e d2 ∧ SortedIn (ltOf cf) e b d2 from ⟨sorted_congr HT.out.2.2.1 fun i h1 _ => HP2.2.1 i (.inr h1), sorted_congr HT.out.2.2.2.1 fun i h1 _ => HP2.2.1 i (.inr (by omega))⟩)
                    have HFin := Lib.hid (show ∀ d3, PermIn mid b d2 d3 → SortedIn (ltOf cf) mid b d3 → PermIn a b d d3 ∧ SortedIn (ltOf cf) a b d3 from fun d3 h1 h2 => by
                      have hs1 := HS1.out
                      have := merge_done (by omega) (by omega) (by omega) HT.out.2.2.2.2 HP2 HQ2 h1 h2
                      exact ⟨permIn_trans _ _ _ _ _ HP1 this.1, this.2⟩)
                    have HS2 := Lib.hid hs2
                    clear HP2 HQ2 hs2
                    by_cases g5 : mid < e
                    · by_cases g6 : e < b
                      · try (exfalso; omega)
                        all_goals
                          have g5' : (mid : Int) < (e : Int) := by omega
                          have g6' : (e : Int) < (b : Int) := by omega
                          have hcall := IH.out mid e b d2 _ (by omega) (by rw [HS2.out]; omega) S3.out g5 g6 (by rw [HS2.out]; omega) (by rw [HS2.out]; omega) HE2.out.1 HE2.out.2
                          rw [HS2.out] at hcall
                          clear S3
                          go_wp2_with (go_at_fn 114; refine hcall.mono ?_; rintro e w1 ⟨rfl, d3, q1, q2, q3⟩)
                          go_end0
                          exact ⟨rfl, d3, (HFin.out d3 q1 q2).1, (HFin.out d3 q1 q2).2, q3⟩
                      · try (exfalso; omega)
                        all_goals
                          have g5' : (mid : Int) < (e : Int) := by omega
                          have g6' : ¬ (e : Int) < (b : Int) := by omega
                          have HF := Lib.hid (HFin.out d2 (permIn_refl _ _ _) (by rw [show b = e by omega]; exact HE2.out.1))
                          go_wp2_with fail
                          go_end0
                          exact ⟨rfl, d2, HF.out.1, HF.out.2, S3.out⟩
                    · try (exfalso; omega)
                      all_goals
                        have g5' : ¬ (mid : Int) < (e : Int) := by omega
                        have HF := Lib.hid (HFin.out d2 (permIn_refl _ _ _) (by rw [show mid = e by omega]; exact HE2.out.2))
                        go_wp2_with fail
                        go_end0
                        exact ⟨rfl, d2, HF.out.1, HF.out.2, S3.out⟩
            · have g1' : ¬ (s : Int) < (m : Int) := by omega
              have hrot := rot_self (d := d) (x := s) (m := m) (y := e) (by omega) (by omega) (.inl (by omega))
              have HP1 := permIn_refl d a b
              have S2 := S1.out
              clear S1
              obtain ⟨d1, hd1⟩ : ∃ d1, d1 = d := ⟨_, rfl⟩
              rw [show Rot d s m e d = Rot d s m e d1 by rw [hd1]] at hrot
              rw [show PermIn a b d d = PermIn a b d d1 by rw [hd1]] at HP1
              rw [← hd1] at S2
              clear hd1
              go_upto_region 41 with (fail)
              have HT := Lib.hid (HM.out d1 hrot)
              have hs1 : d1.size = d.size := HP1.1
              have S3 := Lib.hid S2
              clear hrot S2
              by_cases g3 : a < s
              · by_cases g4 : s < mid
                · try (exfalso; omega)
                  all_goals
                    have g3' : (a : Int) < (s : Int) := by omega
                    have g4' : (s : Int) < (mid : Int) := by omega
                    have hcall := IH.out a s mid d1 _ (by omega) (by omega) S3.out g3 g4 (by omega) (by omega) HT.out.1 HT.out.2.1
                    rw [hs1] at hcall
                    have HS1 := Lib.hid hs1
                    clear S3 hs1
                    go_upto_region 43 with (go_at_fn 114; refine hcall.mono ?_; rintro e w1 ⟨rfl, d2, HP2, HQ2, S2⟩)
                    have S3 := Lib.hid S2
                    clear S2 hcall
                    have hs2 : d2.size = d.size := HP2.1.trans HS1.out
                    have HE2 := Lib.hid (show SortedIn (ltOf cf) mid e d2 ∧ SortedIn (ltOf cf) e b d2 from ⟨sorted_congr HT.out.2.2.1 fun i h1 _ => HP2.2.1 i (.inr h1), sorted_congr HT.out.2.2.2.1 fun i h1 _ => HP2.2.1 i (.inr (by omega))⟩)
                    have HFin := Lib.hid (show ∀ d3, PermIn mid b d2 d3 → SortedIn (ltOf cf) mid b d3 → PermIn a b d d3 ∧ SortedIn (ltOf cf) a b d3 from fun d3 h1 h2 => by
                      have hs1 := HS1.out
                      have := merge_done (by omega) (by omega) (by omega) HT.out.2.2.2.2 HP2 HQ2 h1 h2
                      exact ⟨permIn_trans _ _ _ _ _ HP1 this.1, this.2⟩)
                    have HS2 := Lib.hid hs2
                    clear HP2 HQ2 hs2
                    by_cases g5 : mid < e
                    · by_cases g6 : e < b
                      · try (exfalso; omega)
                        all_goals
                          have g5' : (mid : Int) < (e : Int) := by omega
                          have g6' : (e : Int) < (b : Int) := by omega
                          have hcall := IH.out mid e b d2 _ (by omega) (by rw [HS2.out]; omega) S3.out g5 g6 (by rw [HS2.out]; omega) (by rw [HS2.out]; omega) HE2.out.1 HE2.out.2
                          rw [HS2.out] at hcall
                          clear S3
                          go_wp2_with (go_at_fn 114; refine hcall.mono ?_; rintro e w1 ⟨rfl, d3, q1, q2, q3⟩)
                          go_end0
                          exact ⟨rfl, d3, (HFin.out d3 q1 q2).1, (HFin.out d3 q1 q2).2, q3⟩
                      · try (exfalso; omega)
                        all_goals
                          have g5' : (mid : Int) < (e : Int) := by omega
                          have g6' : ¬ (e : Int) < (b : Int) := by omega
                          have HF := Lib.hid (HFin.out d2 (permIn_refl _ _ _) (by rw [show b = e by omega]; exact HE2.out.1))
                          go_wp2_with fail
                          go_end0
                          exact ⟨rfl, d2, HF.out.1, HF.out.2, S3.out⟩
                    · try (exfalso; omega)
                      all_goals
                        have g5' : ¬ (mid : Int) < (e : Int) := by omega
                        have HF := Lib.hid (HFin.out d2 (permIn_refl _ _ _) (by rw [show mid = e by omega]; exact HE2.out.2))
                        go_wp2_with fail
                        go_end0
                        exact ⟨rfl, d2, HF.out.1, HF.out.2, S3.out⟩
                · try (exfalso; omega)
                  all_goals
                    have g3' : (a : Int) < (s : Int) := by omega
                    have g4' : ¬ (s : Int) < (mid : Int) := by omega
                    have HP2 := permIn_refl d1 a mid
                    have HQ2 : SortedIn (ltOf cf) a mid d1 := by rw [show mid = s by omega]; exact HT.out.1
                    have HS1 := Lib.hid hs1
                    clear hs1
                    obtain ⟨d2, hd2⟩ : ∃ d2, d2 = d1 := ⟨_, rfl⟩
                    rw [show PermIn a mid d1 d1 = PermIn a mid d1 d2 by rw [hd2]] at HP2
                    rw [← hd2] at S3 HQ2
                    clear hd2
                    go_upto_region 43 with (fail)
                    have hs2 : d2.size = d.size := HP2.1.trans HS1.out
                    have HE2 := Lib.hid (show SortedIn (ltOf cf) mid e d2 ∧ SortedIn (ltOf cf) e b d2 from ⟨sorted_congr HT.out.2.2.1 fun i h1 _ => HP2.2.1 i (.inr h1), sorted_congr HT.out.2.2.2.1 fun i h1 _ => HP2.2.1 i (.inr (by omega))⟩)
                    have HFin := Lib.hid (show ∀ d3, PermIn mid b d2 d3 → SortedIn (ltOf cf) mid b d3 → PermIn a b d d3 ∧ SortedIn (ltOf cf) a b d3 from fun d3 h1 h2 => by
                      have hs1 := HS1.out
                      have := merge_done (by omega) (by omega) (by omega) HT.out.2.2.2.2 HP2 HQ2 h1 h2
                      exact ⟨permIn_trans _ _ _ _ _ HP1 this.1, this.2⟩)
                    have HS2 := Lib.hid hs2
                    clear HP2 HQ2 hs2
                    by_cases g5 : mid < e
                    · by_cases g6 : e < b
                      · try (exfalso; omega)
                        all_goals
                          have g5' : (mid : Int) < (e : Int) := by omega
                          have g6' : (e : Int) < (b : Int) := by omega
                          have hcall := IH.out mid e b d2 _ (by omega) (by rw [HS2.out]; omega) S3.out g5 g6 (by rw [HS2.out]; omega) (by rw [HS2.out]; omega) HE2.out.1 HE2.out.2
                          rw [HS2.out] at hcall
                          clear S3
                          go_wp2_with (go_at_fn 114; refine hcall.mono ?_; rintro e w1 ⟨rfl, d3, q1, q2, q3⟩)
                          go_end0
                          exact ⟨rfl, d3, (HFin.out d3 q1 q2).1, (HFin.out d3 q1 q2).2, q3⟩
                      · try (exfalso; omega)
                        all_goals
                          have g5' : (mid : Int) < (e : Int) := by omega
                          have g6' : ¬ (e : Int) < (b : Int) := by omega
                          have HF := Lib.hid (HFin.out d2 (permIn_refl _ _ _) (by rw [show b = e by omega]; exact HE2.out.1))
                          go_wp2_with fail
                          go_end0
                          exact ⟨rfl, d2, HF.out.1, HF.out.2, S3.out⟩
                    · try (exfalso; omega)
                      all_goals
                        have g5' : ¬ (mid : Int) < (e : Int) := by omega
                        have HF := Lib.hid (HFin.out d2 (permIn_refl _ _ _) (by rw [show mid = e by omega]; exact HE2.out.2))
                        go_wp2_with fail
                        go_end0
                        exact ⟨rfl, d2, HF.out.1, HF.out.2, S3.out⟩
              · try (exfalso; omega)
                all_goals
                  have g3' : ¬ (a : Int) < (s : Int) := by omega
                  have HP2 := permIn_refl d1 a mid
                  have HQ2 : SortedIn (ltOf cf) a mid d1 := by rw [show a = s by omega]; exact HT.out.2.1
                  have HS1 := Lib.hid hs1
                  clear hs1
                  obtain ⟨d2, hd2⟩ : ∃ d2, d2 = d1 := ⟨_, rfl⟩
                  rw [show PermIn a mid d1 d1 = PermIn a mid d1 d2 by rw [hd2]] at HP2
                  rw [← hd2] at S3 HQ2
                  clear hd2
                  go_upto_region 43 with (fail)
                  have hs2 : d2.size = d.size := HP2.1.trans HS1.out
                  have HE2 := Lib.hid (show SortedIn (ltOf cf) mid e d2 ∧ SortedIn (ltOf cf) e b d2 from ⟨sorted_congr HT.out.2.2.1 fun i h1 _ => HP2.2.1 i (.inr h1), sorted_congr HT.out.2.2.2.1 fun i h1 _ => HP2.2.1 i (.inr (by omega))⟩)
                  have HFin := Lib.hid (show ∀ d3, PermIn mid b d2 d3 → SortedIn (ltOf cf) mid b d3 → PermIn a b d d3 ∧ SortedIn (ltOf cf) a b d3 from fun d3 h1 h2 => by
                    have hs1 := HS1.out
                    have := merge_done (by omega) (by omega) (by omega) HT.out.2.2.2.2 HP2 HQ2 h1 h2
                    exact ⟨permIn_trans _ _ _ _ _ HP1 this.1, this.2⟩)
                  have HS2 := Lib.hid hs2
                  clear HP2 HQ2 hs2
                  by_cases g5 : mid < e
                  · by_cases g6 : e < b
                    · try (exfalso; omega)
                      all_goals
                        have g5' : (mid : Int) < (e : Int) := by omega
                        have g6' : (e : Int) < (b : Int) := by omega
                        have hcall := IH.out mid e b d2 _ (by omega) (by rw [HS2.out]; omega) S3.out g5 g6 (by rw [HS2.out]; omega) (by rw [HS2.out]; omega) HE2.out.1 HE2.out.2
                        rw [HS2.out] at hcall
                        clear S3
                        go_wp2_with (go_at_fn 114; refine hcall.mono ?_; rintro e w1 ⟨rfl, d3, q1, q2, q3⟩)
                        go_end0
                        exact ⟨rfl, d3, (HFin.out d3 q1 q2).1, (HFin.out d3 q1 q2).2, q3⟩
                    · try (exfalso; omega)
                      all_goals
                        have g5' : (mid : Int) < (e : Int) := by omega
                        have g6' : ¬ (e : Int) < (b : Int) := by omega
                        have HF := Lib.hid (HFin.out d2 (permIn_refl _ _ _) (by rw [show b = e by omega]; exact HE2.out.1))
                        go_wp2_with fail
                        go_end0
                        exact ⟨rfl, d2, HF.out.1, HF.out.2, S3.out⟩
                  · try (exfalso; omega)
                    all_goals
                      have g5' : ¬ (mid : Int) < (e : Int) := by omega
                      have HF := Lib.hid (HFin.out d2 (permIn_refl _ _ _) (by rw [show mid = e by omega]; exact HE2.out.2))
                      go_wp2_with fail
                      go_end0
                      exact ⟨rfl, d2, HF.out.1, HF.out.2, S3.out⟩
      · have hmm' : ¬ (mid : Int) < (m : Int) := by omega
        go_enter FG, Tryz.ntmps114
        go_upto_region 32 with (fail)
        clear hmid h1 h2 hq hq2
        go_wp2_with fail
        go_loopg [20, 21] (b - a) (fun gx ss sr wr => ∃ (s r : Nat), ss = .int .i64 s ∧ sr = .int .i64 r ∧ a ≤ s ∧ s ≤ r ∧ r ≤ m ∧ r ≤ mid ∧ mid + m ≤ b + s ∧ r - s ≤ gx ∧ Aside (SWK enc k w0 blk off d wr) ∧ Aside ((a < s → mid + m - s < b → ltOf cf d[mid + m - s]! d[s - 1]! = false) ∧ (r < m → m < mid + m - r → ltOf cf d[mid + m - r - 1]! d[r]! = true)))
        case atStart => exact ⟨a, m, rfl, rfl, by omega, by omega, by omega, by omega, by omega, by omega, S0, fun h => by omega, fun h => by omega⟩
        case round =>
          clear S0
          obtain ⟨s, r, rfl, rfl, hi, hij, hj, hj2, hbs, hg, S1, HP⟩ := hrel
          by_cases hlt : s < r
          · have hlt' : (s : Int) < (r : Int) := by omega
            obtain ⟨c, hc0, hc1, hc2, hc3⟩ : ∃ c : Nat, ((s : Int) + (r : Int)) / 2 = (c : Int) ∧ s ≤ c ∧ c < r ∧ c = (s + r) / 2 := ⟨(s + r) / 2, by omega, by omega, by omega, rfl⟩
            clear hc3
            obtain ⟨q, hq0, hq1⟩ : ∃ q : Nat, (mid : Int) + (m : Int) - 1 - (c : Int) = (q : Int) ∧ q + c + 1 = mid + m := ⟨mid + m - 1 - c, by omega, by omega⟩
            go_upto_region 35 with (fail)
            cases hT : ltOf cf d[q]! d[c]! with
            | true =>
              have ea : ((q : Int)).toNat = q := by omega
              have pa : (0 : Int) ≤ (q : Int) := by omega
              have ba : (q : Int) < (d.size : Int) := by omega
              have ra : IntKind.i64.wrap ((q : Int)) = (q : Int) := by rw [IntKind.wrap_i64]; omega
              have ec : ((c : Int)).toNat = c := by omega
              have pc : (0 : Int) ≤ (c : Int) := by omega
              have bc : (c : Int) < (d.size : Int) := by omega
              have rc : IntKind.i64.wrap ((c : Int)) = (c : Int) := by rw [IntKind.wrap_i64]; omega
              obtain ⟨xv, hxv⟩ : ∃ x, x = d[q]! := ⟨_, rfl⟩
              obtain ⟨yv, hyv⟩ : ∃ x, x = d[c]! := ⟨_, rfl⟩
              have la := S1.out.ld R (by omega) P (q) (by omega)
              have lb := S1.out.ld R (by omega) P (c) (by omega)
              rw [← hxv] at la
              rw [← hyv] at lb
              have hc := S1.out.cmp HC.out (by omega) xv yv
              have hT' := hT
              rw [← hxv, ← hyv] at hT'
              have hd : decide (cf xv yv < 0) = true := hT'
              have hv := of_decide_eq_true hd
              clear hxv hyv hT'
              have HT := Lib.hid hT
              clear hT
              go_wp2_with fail
              go_quiet_grown (first | (go_at_fn g; refine Calls.grown_of (hc _ _)))
              have S2 : Aside (SWK enc k w0 blk off d (grow (wr.drewN nq) osq)) := S1.out.grown nq osq
              have hT := HT.out
              clear la lb hc S1 ea pa ba ra ec pc bc rc hv hd HT
              generalize grow (wr.drewN nq) osq = w2 at S2 ⊢
              clear nq osq
              clear hc0 hq0
              go_wp2_with fail
              go_roundg (c - s)
              case measure => omega
              case rel => exact ⟨s, c, rfl, rfl, by omega, by omega, by omega, by omega, by omega, by omega, S2, HP.out.1, fun _ _ => by rw [show mid + m - c - 1 = q by omega]; exact hT⟩
            | false =>
              have ea : ((q : Int)).toNat = q := by omega
              have pa : (0 : Int) ≤ (q : Int) := by omega
              have ba : (q : Int) < (d.size : Int) := by omega
              have ra : IntKind.i64.wrap ((q : Int)) = (q : Int) := by rw [IntKind.wrap_i64]; omega
              have ec : ((c : Int)).toNat = c := by omega
              have pc : (0 : Int) ≤ (c : Int) := by omega
              have bc : (c : Int) < (d.size : Int) := by omega
              have rc : IntKind.i64.wrap ((c : Int)) = (c : Int) := by rw [IntKind.wrap_i64]; omega
              obtain ⟨xv, hxv⟩ : ∃ x, x = d[q]! := ⟨_, rfl⟩
              obtain ⟨yv, hyv⟩ : ∃ x, x = d[c]! := ⟨_, rfl⟩
              have la := S1.out.ld R (by omega) P (q) (by omega)
              have lb := S1.out.ld R (by omega) P (c) (by omega)
              rw [← hxv] at la
              rw [← hyv] at lb
              have hc := S1.out.cmp HC.out (by omega) xv yv
              have hT' := hT
              rw [← hxv, ← hyv] at hT'
              have hd : decide (cf xv yv < 0) = false := hT'
              have hv := of_decide_eq_false hd
              clear hxv hyv hT'
              have HT := Lib.hid hT
              clear hT
              go_wp2_with fail
              go_quiet_grown (first | (go_at_fn g; refine Calls.grown_of (hc _ _)))
              have S2 : Aside (SWK enc k w0 blk off d (grow (wr.drewN nq) osq)) := S1.out.grown nq osq
              have hT := HT.out
              clear la lb hc S1 ea pa ba ra ec pc bc rc hv hd HT
              generalize grow (wr.drewN nq) osq = w2 at S2 ⊢
              clear nq osq
              clear hc0 hq0
              go_wp2_with fail
              go_roundg (r - (c + 1))
              case measure => omega
              case rel => exact ⟨c + 1, r, by go_num, rfl, by omega, by omega, by omega, by omega, by omega, by omega, S2, fun _ _ => by rw [Nat.add_sub_cancel, show mid + m - (c + 1) = q by omega]; exact hT, HP.out.2⟩
          · have hlt' : ¬ (s : Int) < (r : Int) := by omega
            obtain rfl : s = r := by omega
            obtain ⟨e, hE, he⟩ : ∃ e : Nat, (mid : Int) + (m : Int) - (s : Int) = (e : Int) ∧ s + e = mid + m := ⟨mid + m - s, by omega, by omega⟩
            have HM : Aside (∀ d1, Rot d s m e d1 → SortedIn (ltOf cf) a s d1 ∧ SortedIn (ltOf cf) s mid d1 ∧ SortedIn (ltOf cf) mid e d1 ∧ SortedIn (ltOf cf) e b d1 ∧ ∀ i j, a ≤ i → i < mid → mid ≤ j → j < b → ltOf cf d1[j]! d1[i]! = false) := fun d1 h => merge_ready hO HHL.out.1 HHL.out.2 hi hj (by omega) (by omega) he (fun h1 h2 => by have := HP.out.1 h1 (by omega); rwa [show mid + m - s = e by omega] at this) (fun h1 h2 => by have := HP.out.2 h1 (by omega); rwa [show mid + m - s - 1 = e - 1 by omega] at this) h
            clear hlt hij hg HP
            by_cases g1 : s < m
            · by_cases g2 : m < e
              · have g1' : (s : Int) < (m : Int) := by omega
                have g2' : (m : Int) < (e : Int) := by omega
                have hcall := rotate_any L enc g cb blk off cap s m e d0 d w0 wr R (by omega) S1.out (by omega) (by omega) (by omega) (by omega)
                clear S1
                go_upto_region 41 with (go_at_fn 132; refine hcall.mono ?_; rintro e w1 ⟨rfl, d1, q1, hrot, S2⟩)
                have HP1 := permIn_mono _ _ _ _ a b (by omega) (by omega) (by omega) q1
                clear q1 hcall
                have HT := Lib.hid (HM.out d1 hrot)
                have hs1 : d1.size = d.size := HP1.1
                have S3 := Lib.hid S2
                clear hrot S2
                by_cases g3 : a < s
                · by_cases g4 : s < mid
                  · try (exfalso; omega)
                    all_goals
                      have g3' : (a : Int) < (s : Int) := by omega
                      have g4' : (s : Int) < (mid : Int) := by omega
                      have hcall := IH.out a s mid d1 _ (by omega) (by omega) S3.out g3 g4 (by omega) (by omega) HT.out.1 HT.out.2.1
                      rw [hs1] at hcall
                      have HS1 := Lib.hid hs1
                      clear S3 hs1
                      go_upto_region 43 with (go_at_fn 114; refine hcall.mono ?_; rintro e w1 ⟨rfl, d2, HP2, HQ2, S2⟩)
                      have S3 := Lib.hid S2
                      clear S2 hcall
                      have hs2 : d2.size = d.size := HP2.1.trans HS1.out
                      have HE2 := Lib.hid (show SortedIn (ltOf cf) mid e d2 ∧ SortedIn (ltOf cf) e b d2 from ⟨sorted_congr HT.out.2.2.1 fun i h1 _ => HP2.2.1 i (.inr h1), sorted_congr HT.out.2.2.2.1 fun i h1 _ => HP2.2.1 i (.inr (by omega))⟩)
                      have HFin := Lib.hid (show ∀ d3, PermIn mid b d2 d3 → SortedIn (ltOf cf) mid b d3 → PermIn a b d d3 ∧ SortedIn (ltOf cf) a b d3 from fun d3 h1 h2 => by
                        have hs1 := HS1.out
                        have := merge_done (by omega) (by omega) (by omega) HT.out.2.2.2.2 HP2 HQ2 h1 h2
                        exact ⟨permIn_trans _ _ _ _ _ HP1 this.1, this.2⟩)
                      have HS2 := Lib.hid hs2
                      clear HP2 HQ2 hs2
                      by_cases g5 : mid < e
                      · by_cases g6 : e < b
                        · try (exfalso; omega)
                          all_goals
                            have g5' : (mid : Int) < (e : Int) := by omega
                            have g6' : (e : Int) < (b : Int) := by omega
                            have hcall := IH.out mid e b d2 _ (by omega) (by rw [HS2.out]; omega) S3.out g5 g6 (by rw [HS2.out]; omega) (by rw [HS2.out]; omega) HE2.out.1 HE2.out.2
                            rw [HS2.out] at hcall
                            clear S3
                            go_wp2_with (go_at_fn 114; refine hcall.mono ?_; rintro e w1 ⟨rfl, d3, q1, q2, q3⟩)
                            go_end0
                            exact ⟨rfl, d3, (HFin.out d3 q1 q2).1, (HFin.out d3 q1 q2).2, q3⟩
                        · try (exfalso; omega)
                          all_goals
                            have g5' : (mid : Int) < (e : Int) := by omega
                            have g6' : ¬ (e : Int) < (b : Int) := by omega
                            have HF := Lib.hid (HFin.out d2 (permIn_refl _ _ _) (by rw [show b = e by omega]; exact HE2.out.1))
                            go_wp2_with fail
                            go_end0
                            exact ⟨rfl, d2, HF.out.1, HF.out.2, S3.out⟩
                      · try (exfalso; omega)
                        all_goals
                          have g5' : ¬ (mid : Int) < (e : Int) := by omega
                          have HF := Lib.hid (HFin.out d2 (permIn_refl _ _ _) (by rw [show mid = e by omega]; exact HE2.out.2))
                          go_wp2_with fail
                          go_end0
                          exact ⟨rfl, d2, HF.out.1, HF.out.2, S3.out⟩
                  · try (exfalso; omega)
                    all_goals
                      have g3' : (a : Int) < (s : Int) := by omega
                      have g4' : ¬ (s : Int) < (mid : Int) := by omega
                      have HP2 := permIn_refl d1 a mid
                      have HQ2 : SortedIn (ltOf cf) a mid d1 := by rw [show mid = s by omega]; exact HT.out.1
                      have HS1 := Lib.hid hs1
                      clear hs1
                      obtain ⟨d2, hd2⟩ : ∃ d2, d2 = d1 := ⟨_, rfl⟩
                      rw [show PermIn a mid d1 d1 = PermIn a mid d1 d2 by rw [hd2]] at HP2
                      rw [← hd2] at S3 HQ2
                      clear hd2
                      go_upto_region 43 with (fail)
                      have hs2 : d2.size = d.size := HP2.1.trans HS1.out
                      have HE2 := Lib.hid (show SortedIn (ltOf cf) mid e d2 ∧ SortedIn (ltOf cf) e b d2 from ⟨sorted_congr HT.out.2.2.1 fun i h1 _ => HP2.2.1 i (.inr h1), sorted_congr HT.out.2.2.2.1 fun i h1 _ => HP2.2.1 i (.inr (by omega))⟩)
                      have HFin := Lib.hid (show ∀ d3, PermIn mid b d2 d3 → SortedIn (ltOf cf) mid b d3 → PermIn a b d d3 ∧ SortedIn (ltOf cf) a b d3 from fun d3 h1 h2 => by
                        have hs1 := HS1.out
                        have := merge_done (by omega) (by omega) (by omega) HT.out.2.2.2.2 HP2 HQ2 h1 h2
                        exact ⟨permIn_trans _ _ _ _ _ HP1 this.1, this.2⟩)
                      have HS2 := Lib.hid hs2
                      clear HP2 HQ2 hs2
                      by_cases g5 : mid < e
                      · by_cases g6 : e < b
                        · try (exfalso; omega)
                          all_goals
                            have g5' : (mid : Int) < (e : Int) := by omega
                            have g6' : (e : Int) < (b : Int) := by omega
                            have hcall := IH.out mid e b d2 _ (by omega) (by rw [HS2.out]; omega) S3.out g5 g6 (by rw [HS2.out]; omega) (by rw [HS2.out]; omega) HE2.out.1 HE2.out.2
                            rw [HS2.out] at hcall
                            clear S3
                            go_wp2_with (go_at_fn 114; refine hcall.mono ?_; rintro e w1 ⟨rfl, d3, q1, q2, q3⟩)
                            go_end0
                            exact ⟨rfl, d3, (HFin.out d3 q1 q2).1, (HFin.out d3 q1 q2).2, q3⟩
                        · try (exfalso; omega)
                          all_goals
                            have g5' : (mid : Int) < (e : Int) := by omega
                            have g6' : ¬ (e : Int) < (b : Int) := by omega
                            have HF := Lib.hid (HFin.out d2 (permIn_refl _ _ _) (by rw [show b = e by omega]; exact HE2.out.1))
                            go_wp2_with fail
                            go_end0
                            exact ⟨rfl, d2, HF.out.1, HF.out.2, S3.out⟩
                      · try (exfalso; omega)
                        all_goals
                          have g5' : ¬ (mid : Int) < (e : Int) := by omega
                          have HF := Lib.hid (HFin.out d2 (permIn_refl _ _ _) (by rw [show mid = e by omega]; exact HE2.out.2))
                          go_wp2_with fail
                          go_end0
                          exact ⟨rfl, d2, HF.out.1, HF.out.2, S3.out⟩
                · try (exfalso; omega)
                  all_goals
                    have g3' : ¬ (a : Int) < (s : Int) := by omega
                    have HP2 := permIn_refl d1 a mid
                    have HQ2 : SortedIn (ltOf cf) a mid d1 := by rw [show a = s by omega]; exact HT.out.2.1
                    have HS1 := Lib.hid hs1
                    clear hs1
                    obtain ⟨d2, hd2⟩ : ∃ d2, d2 = d1 := ⟨_, rfl⟩
                    rw [show PermIn a mid d1 d1 = PermIn a mid d1 d2 by rw [hd2]] at HP2
                    rw [← hd2] at S3 HQ2
                    clear hd2
                    go_upto_region 43 with (fail)
                    have hs2 : d2.size = d.size := HP2.1.trans HS1.out
                    have HE2 := Lib.hid (show SortedIn (ltOf cf) mid e d2 ∧ SortedIn (ltOf cf) e b d2 from ⟨sorted_congr HT.out.2.2.1 fun i h1 _ => HP2.2.1 i (.inr h1), sorted_congr HT.out.2.2.2.1 fun i h1 _ => HP2.2.1 i (.inr (by omega))⟩)
                    have HFin := Lib.hid (show ∀ d3, PermIn mid b d2 d3 → SortedIn (ltOf cf) mid b d3 → PermIn a b d d3 ∧ SortedIn (ltOf cf) a b d3 from fun d3 h1 h2 => by
                      have hs1 := HS1.out
                      have := merge_done (by omega) (by omega) (by omega) HT.out.2.2.2.2 HP2 HQ2 h1 h2
                      exact ⟨permIn_trans _ _ _ _ _ HP1 this.1, this.2⟩)
                    have HS2 := Lib.hid hs2
                    clear HP2 HQ2 hs2
                    by_cases g5 : mid < e
                    · by_cases g6 : e < b
                      · try (exfalso; omega)
                        all_goals
                          have g5' : (mid : Int) < (e : Int) := by omega
                          have g6' : (e : Int) < (b : Int) := by omega
                          have hcall := IH.out mid e b d2 _ (by omega) (by rw [HS2.out]; omega) S3.out g5 g6 (by rw [HS2.out]; omega) (by rw [HS2.out]; omega) HE2.out.1 HE2.out.2
                          rw [HS2.out] at hcall
                          clear S3
                          go_wp2_with (go_at_fn 114; refine hcall.mono ?_; rintro e w1 ⟨rfl, d3, q1, q2, q3⟩)
                          go_end0
                          exact ⟨rfl, d3, (HFin.out d3 q1 q2).1, (HFin.out d3 q1 q2).2, q3⟩
                      · try (exfalso; omega)
                        all_goals
                          have g5' : (mid : Int) < (e : Int) := by omega
                          have g6' : ¬ (e : Int) < (b : Int) := by omega
                          have HF := Lib.hid (HFin.out d2 (permIn_refl _ _ _) (by rw [show b = e by omega]; exact HE2.out.1))
                          go_wp2_with fail
                          go_end0
                          exact ⟨rfl, d2, HF.out.1, HF.out.2, S3.out⟩
                    · try (exfalso; omega)
                      all_goals
                        have g5' : ¬ (mid : Int) < (e : Int) := by omega
                        have HF := Lib.hid (HFin.out d2 (permIn_refl _ _ _) (by rw [show mid = e by omega]; exact HE2.out.2))
                        go_wp2_with fail
                        go_end0
                        exact ⟨rfl, d2, HF.out.1, HF.out.2, S3.out⟩
              · have g1' : (s : Int) < (m : Int) := by omega
                have g2' : ¬ (m : Int) < (e : Int) := by omega
                have hrot := rot_self (d := d) (x := s) (m := m) (y := e) (by omega) (by omega) (.inr (by omega))
                have HP1 := permIn_refl d a b
                have S2 := S1.out
                clear S1
                obtain ⟨d1, hd1⟩ : ∃ d1, d1 = d := ⟨_, rfl⟩
                rw [show Rot d s m e d = Rot d s m e d1 by rw [hd1]] at hrot
                rw [show PermIn a b d d = PermIn a b d d1 by rw [hd1]] at HP1
                rw [← hd1] at S2
                clear hd1
                go_upto_region 41 with (fail)
                have HT := Lib.hid (HM.out d1 hrot)
                have hs1 : d1.size = d.size := HP1.1
                have S3 := Lib.hid S2
                clear hrot S2
                by_cases g3 : a < s
                · by_cases g4 : s < mid
                  · try (exfalso; omega)
                    all_goals
                      have g3' : (a : Int) < (s : Int) := by omega
                      have g4' : (s : Int) < (mid : Int) := by omega
                      have hcall := IH.out a s mid d1 _ (by omega) (by omega) S3.out g3 g4 (by omega) (by omega) HT.out.1 HT.out.2.1
                      rw [hs1] at hcall
                      have HS1 := Lib.hid hs1
                      clear S3 hs1
                      go_upto_region 43 with (go_at_fn 114; refine hcall.mono ?_; rintro e w1 ⟨rfl, d2, HP2, HQ2, S2⟩)
                      have S3 := Lib.hid S2
                      clear S2 hcall
                      have hs2 : d2.size = d.size := HP2.1.trans HS1.out
                      have HE2 := Lib.hid (show SortedIn (ltOf cf) mid e d2 ∧ SortedIn (ltOf cf) e b d2 from ⟨sorted_congr HT.out.2.2.1 fun i h1 _ => HP2.2.1 i (.inr h1), sorted_congr HT.out.2.2.2.1 fun i h1 _ => HP2.2.1 i (.inr (by omega))⟩)
                      have HFin := Lib.hid (show ∀ d3, PermIn mid b d2 d3 → SortedIn (ltOf cf) mid b d3 → PermIn a b d d3 ∧ SortedIn (ltOf cf) a b d3 from fun d3 h1 h2 => by
                        have hs1 := HS1.out
                        have := merge_done (by omega) (by omega) (by omega) HT.out.2.2.2.2 HP2 HQ2 h1 h2
                        exact ⟨permIn_trans _ _ _ _ _ HP1 this.1, this.2⟩)
                      have HS2 := Lib.hid hs2
                      clear HP2 HQ2 hs2
                      by_cases g5 : mid < e
                      · by_cases g6 : e < b
                        · try (exfalso; omega)
                          all_goals
                            have g5' : (mid : Int) < (e : Int) := by omega
                            have g6' : (e : Int) < (b : Int) := by omega
                            have hcall := IH.out mid e b d2 _ (by omega) (by rw [HS2.out]; omega) S3.out g5 g6 (by rw [HS2.out]; omega) (by rw [HS2.out]; omega) HE2.out.1 HE2.out.2
                            rw [HS2.out] at hcall
                            clear S3
                            go_wp2_with (go_at_fn 114; refine hcall.mono ?_; rintro e w1 ⟨rfl, d3, q1, q2, q3⟩)
                            go_end0
                            exact ⟨rfl, d3, (HFin.out d3 q1 q2).1, (HFin.out d3 q1 q2).2, q3⟩
                        · try (exfalso; omega)
                          all_goals
                            have g5' : (mid : Int) < (e : Int) := by omega
                            have g6' : ¬ (e : Int) < (b : Int) := by omega
                            have HF := Lib.hid (HFin.out d2 (permIn_refl _ _ _) (by rw [show b = e by omega]; exact HE2.out.1))
                            go_wp2_with fail
                            go_end0
                            exact ⟨rfl, d2, HF.out.1, HF.out.2, S3.out⟩
                      · try (exfalso; omega)
                        all_goals
                          have g5' : ¬ (mid : Int) < (e : Int) := by omega
                          have HF := Lib.hid (HFin.out d2 (permIn_refl _ _ _) (by rw [show mid = e by omega]; exact HE2.out.2))
                          go_wp2_with fail
                          go_end0
                          exact ⟨rfl, d2, HF.out.1, HF.out.2, S3.out⟩
                  · try (exfalso; omega)
                    all_goals
                      have g3' : (a : Int) < (s : Int) := by omega
                      have g4' : ¬ (s : Int) < (mid : Int) := by omega
                      have HP2 := permIn_refl d1 a mid
                      have HQ2 : SortedIn (ltOf cf) a mid d1 := by rw [show mid = s by omega]; exact HT.out.1
                      have HS1 := Lib.hid hs1
                      clear hs1
                      obtain ⟨d2, hd2⟩ : ∃ d2, d2 = d1 := ⟨_, rfl⟩
                      rw [show PermIn a mid d1 d1 = PermIn a mid d1 d2 by rw [hd2]] at HP2
                      rw [← hd2] at S3 HQ2
                      clear hd2
                      go_upto_region 43 with (fail)
                      have hs2 : d2.size = d.size := HP2.1.trans HS1.out
                      have HE2 := Lib.hid (show SortedIn (ltOf cf) mid e d2 ∧ SortedIn (ltOf cf) e b d2 from ⟨sorted_congr HT.out.2.2.1 fun i h1 _ => HP2.2.1 i (.inr h1), sorted_congr HT.out.2.2.2.1 fun i h1 _ => HP2.2.1 i (.inr (by omega))⟩)
                      have HFin := Lib.hid (show ∀ d3, PermIn mid b d2 d3 → SortedIn (ltOf cf) mid b d3 → PermIn a b d d3 ∧ SortedIn (ltOf cf) a b d3 from fun d3 h1 h2 => by
                        have hs1 := HS1.out
                        have := merge_done (by omega) (by omega) (by omega) HT.out.2.2.2.2 HP2 HQ2 h1 h2
                        exact ⟨permIn_trans _ _ _ _ _ HP1 this.1, this.2⟩)
                      have HS2 := Lib.hid hs2
                      clear HP2 HQ2 hs2
                      by_cases g5 : mid < e
                      · by_cases g6 : e < b
                        · try (exfalso; omega)
                          all_goals
                            have g5' : (mid : Int) < (e : Int) := by omega
                            have g6' : (e : Int) < (b : Int) := by omega
                            have hcall := IH.out mid e b d2 _ (by omega) (by rw [HS2.out]; omega) S3.out g5 g6 (by rw [HS2.out]; omega) (by rw [HS2.out]; omega) HE2.out.1 HE2.out.2
                            rw [HS2.out] at hcall
                            clear S3
                            go_wp2_with (go_at_fn 114; refine hcall.mono ?_; rintro e w1 ⟨rfl, d3, q1, q2, q3⟩)
                            go_end0
                            exact ⟨rfl, d3, (HFin.out d3 q1 q2).1, (HFin.out d3 q1 q2).2, q3⟩
                        · try (exfalso; omega)
                          all_goals
                            have g5' : (mid : Int) < (e : Int) := by omega
                            have g6' : ¬ (e : Int) < (b : Int) := by omega
                            have HF := Lib.hid (HFin.out d2 (permIn_refl _ _ _) (by rw [show b = e by omega]; exact HE2.out.1))
                            go_wp2_with fail
                            go_end0
                            exact ⟨rfl, d2, HF.out.1, HF.out.2, S3.out⟩
                      · try (exfalso; omega)
                        all_goals
                          have g5' : ¬ (mid : Int) < (e : Int) := by omega
                          have HF := Lib.hid (HFin.out d2 (permIn_refl _ _ _) (by rw [show mid = e by omega]; exact HE2.out.2))
                          go_wp2_with fail
                          go_end0
                          exact ⟨rfl, d2, HF.out.1, HF.out.2, S3.out⟩
                · try (exfalso; omega)
                  all_goals
                    have g3' : ¬ (a : Int) < (s : Int) := by omega
                    have HP2 := permIn_refl d1 a mid
                    have HQ2 : SortedIn (ltOf cf) a mid d1 := by rw [show a = s by omega]; exact HT.out.2.1
                    have HS1 := Lib.hid hs1
                    clear hs1
                    obtain ⟨d2, hd2⟩ : ∃ d2, d2 = d1 := ⟨_, rfl⟩
                    rw [show PermIn a mid d1 d1 = PermIn a mid d1 d2 by rw [hd2]] at HP2
                    rw [← hd2] at S3 HQ2
                    clear hd2
                    go_upto_region 43 with (fail)
                    have hs2 : d2.size = d.size := HP2.1.trans HS1.out
                    have HE2 := Lib.hid (show SortedIn (ltOf cf) mid e d2 ∧ SortedIn (ltOf cf) e b d2 from ⟨sorted_congr HT.out.2.2.1 fun i h1 _ => HP2.2.1 i (.inr h1), sorted_congr HT.out.2.2.2.1 fun i h1 _ => HP2.2.1 i (.inr (by omega))⟩)
                    have HFin := Lib.hid (show ∀ d3, PermIn mid b d2 d3 → SortedIn (ltOf cf) mid b d3 → PermIn a b d d3 ∧ SortedIn (ltOf cf) a b d3 from fun d3 h1 h2 => by
                      have hs1 := HS1.out
                      have := merge_done (by omega) (by omega) (by omega) HT.out.2.2.2.2 HP2 HQ2 h1 h2
                      exact ⟨permIn_trans _ _ _ _ _ HP1 this.1, this.2⟩)
                    have HS2 := Lib.hid hs2
                    clear HP2 HQ2 hs2
                    by_cases g5 : mid < e
                    · by_cases g6 : e < b
                      · try (exfalso; omega)
                        all_goals
                          have g5' : (mid : Int) < (e : Int) := by omega
                          have g6' : (e : Int) < (b : Int) := by omega
                          have hcall := IH.out mid e b d2 _ (by omega) (by rw [HS2.out]; omega) S3.out g5 g6 (by rw [HS2.out]; omega) (by rw [HS2.out]; omega) HE2.out.1 HE2.out.2
                          rw [HS2.out] at hcall
                          clear S3
                          go_wp2_with (go_at_fn 114; refine hcall.mono ?_; rintro e w1 ⟨rfl, d3, q1, q2, q3⟩)
                          go_end0
                          exact ⟨rfl, d3, (HFin.out d3 q1 q2).1, (HFin.out d3 q1 q2).2, q3⟩
                      · try (exfalso; omega)
                        all_goals
                          have g5' : (mid : Int) < (e : Int) := by omega
                          have g6' : ¬ (e : Int) < (b : Int) := by omega
                          have HF := Lib.hid (HFin.out d2 (permIn_refl _ _ _) (by rw [show b = e by omega]; exact HE2.out.1))
                          go_wp2_with fail
                          go_end0
                          exact ⟨rfl, d2, HF.out.1, HF.out.2, S3.out⟩
                    · try (exfalso; omega)
                      all_goals
                        have g5' : ¬ (mid : Int) < (e : Int) := by omega
                        have HF := Lib.hid (HFin.out d2 (permIn_refl _ _ _) (by rw [show mid = e by omega]; exact HE2.out.2))
                        go_wp2_with fail
                        go_end0
                        exact ⟨rfl, d2, HF.out.1, HF.out.2, S3.out⟩
            · have g1' : ¬ (s : Int) < (m : Int) := by omega
              have hrot := rot_self (d := d) (x := s) (m := m) (y := e) (by omega) (by omega) (.inl (by omega))
              have HP1 := permIn_refl d a b
              have S2 := S1.out
              clear S1
              obtain ⟨d1, hd1⟩ : ∃ d1, d1 = d := ⟨_, rfl⟩
              rw [show Rot d s m e d = Rot d s m e d1 by rw [hd1]] at hrot
              rw [show PermIn a b d d = PermIn a b d d1 by rw [hd1]] at HP1
              rw [← hd1] at S2
              clear hd1
              go_upto_region 41 with (fail)
              have HT := Lib.hid (HM.out d1 hrot)
              have hs1 : d1.size = d.size := HP1.1
              have S3 := Lib.hid S2
              clear hrot S2
              by_cases g3 : a < s
              · by_cases g4 : s < mid
                · try (exfalso; omega)
                  all_goals
                    have g3' : (a : Int) < (s : Int) := by omega
                    have g4' : (s : Int) < (mid : Int) := by omega
                    have hcall := IH.out a s mid d1 _ (by omega) (by omega) S3.out g3 g4 (by omega) (by omega) HT.out.1 HT.out.2.1
                    rw [hs1] at hcall
                    have HS1 := Lib.hid hs1
                    clear S3 hs1
                    go_upto_region 43 with (go_at_fn 114; refine hcall.mono ?_; rintro e w1 ⟨rfl, d2, HP2, HQ2, S2⟩)
                    have S3 := Lib.hid S2
                    clear S2 hcall
                    have hs2 : d2.size = d.size := HP2.1.trans HS1.out
                    have HE2 := Lib.hid (show SortedIn (ltOf cf) mid e d2 ∧ SortedIn (ltOf cf) e b d2 from ⟨sorted_congr HT.out.2.2.1 fun i h1 _ => HP2.2.1 i (.inr h1), sorted_congr HT.out.2.2.2.1 fun i h1 _ => HP2.2.1 i (.inr (by omega))⟩)
                    have HFin := Lib.hid (show ∀ d3, PermIn mid b d2 d3 → SortedIn (ltOf cf) mid b d3 → PermIn a b d d3 ∧ SortedIn (ltOf cf) a b d3 from fun d3 h1 h2 => by
                      have hs1 := HS1.out
                      have := merge_done (by omega) (by omega) (by omega) HT.out.2.2.2.2 HP2 HQ2 h1 h2
                      exact ⟨permIn_trans _ _ _ _ _ HP1 this.1, this.2⟩)
                    have HS2 := Lib.hid hs2
                    clear HP2 HQ2 hs2
                    by_cases g5 : mid < e
                    · by_cases g6 : e < b
                      · try (exfalso; omega)
                        all_goals
                          have g5' : (mid : Int) < (e : Int) := by omega
                          have g6' : (e : Int) < (b : Int) := by omega
                          have hcall := IH.out mid e b d2 _ (by omega) (by rw [HS2.out]; omega) S3.out g5 g6 (by rw [HS2.out]; omega) (by rw [HS2.out]; omega) HE2.out.1 HE2.out.2
                          rw [HS2.out] at hcall
                          clear S3
                          go_wp2_with (go_at_fn 114; refine hcall.mono ?_; rintro e w1 ⟨rfl, d3, q1, q2, q3⟩)
                          go_end0
                          exact ⟨rfl, d3, (HFin.out d3 q1 q2).1, (HFin.out d3 q1 q2).2, q3⟩
                      · try (exfalso; omega)
                        all_goals
                          have g5' : (mid : Int) < (e : Int) := by omega
                          have g6' : ¬ (e : Int) < (b : Int) := by omega
                          have HF := Lib.hid (HFin.out d2 (permIn_refl _ _ _) (by rw [show b = e by omega]; exact HE2.out.1))
                          go_wp2_with fail
                          go_end0
                          exact ⟨rfl, d2, HF.out.1, HF.out.2, S3.out⟩
                    · try (exfalso; omega)
                      all_goals
                        have g5' : ¬ (mid : Int) < (e : Int) := by omega
                        have HF := Lib.hid (HFin.out d2 (permIn_refl _ _ _) (by rw [show mid = e by omega]; exact HE2.out.2))
                        go_wp2_with fail
                        go_end0
                        exact ⟨rfl, d2, HF.out.1, HF.out.2, S3.out⟩
                · try (exfalso; omega)
                  all_goals
                    have g3' : (a : Int) < (s : Int) := by omega
                    have g4' : ¬ (s : Int) < (mid : Int) := by omega
                    have HP2 := permIn_refl d1 a mid
                    have HQ2 : SortedIn (ltOf cf) a mid d1 := by rw [show mid = s by omega]; exact HT.out.1
                    have HS1 := Lib.hid hs1
                    clear hs1
                    obtain ⟨d2, hd2⟩ : ∃ d2, d2 = d1 := ⟨_, rfl⟩
                    rw [show PermIn a mid d1 d1 = PermIn a mid d1 d2 by rw [hd2]] at HP2
                    rw [← hd2] at S3 HQ2
                    clear hd2
                    go_upto_region 43 with (fail)
                    have hs2 : d2.size = d.size := HP2.1.trans HS1.out
                    have HE2 := Lib.hid (show SortedIn (ltOf cf) mid e d2 ∧ SortedIn (ltOf cf) e b d2 from ⟨sorted_congr HT.out.2.2.1 fun i h1 _ => HP2.2.1 i (.inr h1), sorted_congr HT.out.2.2.2.1 fun i h1 _ => HP2.2.1 i (.inr (by omega))⟩)
                    have HFin := Lib.hid (show ∀ d3, PermIn mid b d2 d3 → SortedIn (ltOf cf) mid b d3 → PermIn a b d d3 ∧ SortedIn (ltOf cf) a b d3 from fun d3 h1 h2 => by
                      have hs1 := HS1.out
                      have := merge_done (by omega) (by omega) (by omega) HT.out.2.2.2.2 HP2 HQ2 h1 h2
                      exact ⟨permIn_trans _ _ _ _ _ HP1 this.1, this.2⟩)
                    have HS2 := Lib.hid hs2
                    clear HP2 HQ2 hs2
                    by_cases g5 : mid < e
                    · by_cases g6 : e < b
                      · try (exfalso; omega)
                        all_goals
                          have g5' : (mid : Int) < (e : Int) := by omega
                          have g6' : (e : Int) < (b : Int) := by omega
                          have hcall := IH.out mid e b d2 _ (by omega) (by rw [HS2.out]; omega) S3.out g5 g6 (by rw [HS2.out]; omega) (by rw [HS2.out]; omega) HE2.out.1 HE2.out.2
                          rw [HS2.out] at hcall
                          clear S3
                          go_wp2_with (go_at_fn 114; refine hcall.mono ?_; rintro e w1 ⟨rfl, d3, q1, q2, q3⟩)
                          go_end0
                          exact ⟨rfl, d3, (HFin.out d3 q1 q2).1, (HFin.out d3 q1 q2).2, q3⟩
                      · try (exfalso; omega)
                        all_goals
                          have g5' : (mid : Int) < (e : Int) := by omega
                          have g6' : ¬ (e : Int) < (b : Int) := by omega
                          have HF := Lib.hid (HFin.out d2 (permIn_refl _ _ _) (by rw [show b = e by omega]; exact HE2.out.1))
                          go_wp2_with fail
                          go_end0
                          exact ⟨rfl, d2, HF.out.1, HF.out.2, S3.out⟩
                    · try (exfalso; omega)
                      all_goals
                        have g5' : ¬ (mid : Int) < (e : Int) := by omega
                        have HF := Lib.hid (HFin.out d2 (permIn_refl _ _ _) (by rw [show mid = e by omega]; exact HE2.out.2))
                        go_wp2_with fail
                        go_end0
                        exact ⟨rfl, d2, HF.out.1, HF.out.2, S3.out⟩
              · try (exfalso; omega)
                all_goals
                  have g3' : ¬ (a : Int) < (s : Int) := by omega
                  have HP2 := permIn_refl d1 a mid
                  have HQ2 : SortedIn (ltOf cf) a mid d1 := by rw [show a = s by omega]; exact HT.out.2.1
                  have HS1 := Lib.hid hs1
                  clear hs1
                  obtain ⟨d2, hd2⟩ : ∃ d2, d2 = d1 := ⟨_, rfl⟩
                  rw [show PermIn a mid d1 d1 = PermIn a mid d1 d2 by rw [hd2]] at HP2
                  rw [← hd2] at S3 HQ2
                  clear hd2
                  go_upto_region 43 with (fail)
                  have hs2 : d2.size = d.size := HP2.1.trans HS1.out
                  have HE2 := Lib.hid (show SortedIn (ltOf cf) mid e d2 ∧ SortedIn (ltOf cf) e b d2 from ⟨sorted_congr HT.out.2.2.1 fun i h1 _ => HP2.2.1 i (.inr h1), sorted_congr HT.out.2.2.2.1 fun i h1 _ => HP2.2.1 i (.inr (by omega))⟩)
                  have HFin := Lib.hid (show ∀ d3, PermIn mid b d2 d3 → SortedIn (ltOf cf) mid b d3 → PermIn a b d d3 ∧ SortedIn (ltOf cf) a b d3 from fun d3 h1 h2 => by
                    have hs1 := HS1.out
                    have := merge_done (by omega) (by omega) (by omega) HT.out.2.2.2.2 HP2 HQ2 h1 h2
                    exact ⟨permIn_trans _ _ _ _ _ HP1 this.1, this.2⟩)
                  have HS2 := Lib.hid hs2
                  clear HP2 HQ2 hs2
                  by_cases g5 : mid < e
                  · by_cases g6 : e < b
                    · try (exfalso; omega)
                      all_goals
                        have g5' : (mid : Int) < (e : Int) := by omega
                        have g6' : (e : Int) < (b : Int) := by omega
                        have hcall := IH.out mid e b d2 _ (by omega) (by rw [HS2.out]; omega) S3.out g5 g6 (by rw [HS2.out]; omega) (by rw [HS2.out]; omega) HE2.out.1 HE2.out.2
                        rw [HS2.out] at hcall
                        clear S3
                        go_wp2_with (go_at_fn 114; refine hcall.mono ?_; rintro e w1 ⟨rfl, d3, q1, q2, q3⟩)
                        go_end0
                        exact ⟨rfl, d3, (HFin.out d3 q1 q2).1, (HFin.out d3 q1 q2).2, q3⟩
                    · try (exfalso; omega)
                      all_goals
                        have g5' : (mid : Int) < (e : Int) := by omega
                        have g6' : ¬ (e : Int) < (b : Int) := by omega
                        have HF := Lib.hid (HFin.out d2 (permIn_refl _ _ _) (by rw [show b = e by omega]; exact HE2.out.1))
                        go_wp2_with fail
                        go_end0
                        exact ⟨rfl, d2, HF.out.1, HF.out.2, S3.out⟩
                  · try (exfalso; omega)
                    all_goals
                      have g5' : ¬ (mid : Int) < (e : Int) := by omega
                      have HF := Lib.hid (HFin.out d2 (permIn_refl _ _ _) (by rw [show mid = e by omega]; exact HE2.out.2))
                      go_wp2_with fail
                      go_end0
                      exact ⟨rfl, d2, HF.out.1, HF.out.2, S3.out⟩
end
end Go.Proofs.YtelnnjofccldgaaGreatDoor
