/-
  slices.SortStableFunc at structs of k cells: the walk of symMerge.
-/
import Derived.Test.YtbjhemglecllmaaDoorMgB
import Derived.Deep.Cut
import Derived.Deep.CutBlock
import Derived.Deep.DeepCutAuto
import Derived.Lib.Hide
import Derived.Test.YtbjhemglecllmaaDoorMgA
import Derived.Test.YtbjhemglecllmaaDoorShelf3
import Derived.Lib.LazyBuf
namespace Go.Proofs.YtbjhemglecllmaaDoor
open Go.RowKit Go.Lib Go.Sort Go.Tw.Stab
section
variable {P : Program} {α : Type} [Inhabited α]
set_option maxHeartbeats 4000000 in
set_option maxRecDepth 1000000 in
theorem symMerge_any {k : Nat} (L : StabL P k) (enc : α → List Value) (cf : α → α → Int) (hO : SWO (ltOf cf)) (g : Nat) (cb : Array Value) (blk off cap : Nat) (d0 : Array α) (w0 : World)
    (eg : ∀ args w, (callFunc g args).run P w = .ok (.enter g args) w) (hcmp : CmpLays P g cb enc k cf blk off d0.size w0) (R : RowK enc k w0 blk off d0) :
    ∀ (N a m b : Nat) (d : Array α) (w : World), b - a ≤ N → d0.size = d.size → SWK enc k w0 blk off d w → a < m → m < b → b ≤ d.size → d.size < 4611686018427387904 → SortedIn (ltOf cf) a m d → SortedIn (ltOf cf) m b d →
    Calls P 84 #[.slice (some ⟨blk, off, none⟩) d.size cap, .int .i64 a, .int .i64 m, .int .i64 b, .func (.func g) #[] cb] w fun e w' =>
      e = .returned (.tuple #[]) ∧ ∃ d', PermIn a b d d' ∧ SortedIn (ltOf cf) a b d' ∧ SWK enc k w0 blk off d' w' := by
  intro N
  induction N with
  | zero => intro a m b d w h; omega
  | succ N ih =>
  intro a m b d w hN hs S ham hmb hb hsz hL hR
  have mixed := L.mixed
  have ti := L.ti
  have ai := L.ai
  have zi := L.zi
  have vi := L.vi
  have tu := L.tu
  have au := L.au
  have zu := L.zu
  have tb := L.tb
  have ab := L.ab
  have zb := L.zb
  have vb := L.vb
  have ts := L.ts
  have asl := L.asl
  have zs := L.zs
  have vs := L.vs
  have af := L.af
  have zf := L.zf
  have aE := L.aE
  have zE := L.zE
  have FG := L.fSM
  have e86 := L.eRo
  have e77 := L.eSM
  have HC : Aside (CmpLays P g cb enc k cf blk off d0.size w0) := hcmp
  have HL : Aside (SortedIn (ltOf cf) a m d ∧ SortedIn (ltOf cf) m b d) := ⟨hL, hR⟩
  have IH : Aside _ := ih
  have S0 : Aside (SWK enc k w0 blk off d w) := S
  clear S hL hR hcmp ih
  have HHL : Aside (SortedIn (ltOf cf) a m d ∧ SortedIn (ltOf cf) m b d) := HL
  by_cases h1 : m = a + 1
  · have hq : ((m : Int) - (a : Int) == 1) = true := by simp; omega
    have H1 := Lib.hid h1
    clear h1
    go_enter FG, Tryd.ntmps84
    go_wp2
    go_loopg [10, 11] (b - m) (fun gx si sj wr => ∃ (i j : Nat), si = .int .i64 i ∧ sj = .int .i64 j ∧ m ≤ i ∧ i ≤ j ∧ j ≤ b ∧ j - i ≤ gx ∧ Aside (SWK enc k w0 blk off d wr) ∧ Aside ((m < i → ltOf cf d[i - 1]! d[a]! = true) ∧ (j < b → ltOf cf d[j]! d[a]! = false)))
    case atStart => exact ⟨m, b, rfl, rfl, by omega, by omega, by omega, by omega, S0, fun h => by omega, fun h => by omega⟩
    case round =>
      clear S0
      obtain ⟨i, j, rfl, rfl, hi, hij, hj, hg, S1, HP⟩ := hrel
      by_cases hlt : i < j
      · have hlt' : (i : Int) < (j : Int) := by omega
        go_upto_region 5 with (fail)
        cases hT : ltOf cf d[(i + j) / 2]! d[a]! with
        | true =>
          have ea : (((i : Int) + (j : Int)) / 2).toNat = (i + j) / 2 := by omega
          have pa : (0 : Int) ≤ ((i : Int) + (j : Int)) / 2 := by omega
          have ba : ((i : Int) + (j : Int)) / 2 < (d.size : Int) := by omega
          have ra : IntKind.i64.wrap (((i : Int) + (j : Int)) / 2) = ((i : Int) + (j : Int)) / 2 := by rw [IntKind.wrap_i64]; omega
          have ec : ((a : Int)).toNat = a := by omega
          have pc : (0 : Int) ≤ (a : Int) := by omega
          have bc : (a : Int) < (d.size : Int) := by omega
          have rc : IntKind.i64.wrap ((a : Int)) = (a : Int) := by rw [IntKind.wrap_i64]; omega
          obtain ⟨xv, hxv⟩ : ∃ x, x = d[(i + j) / 2]! := ⟨_, rfl⟩
          obtain ⟨yv, hyv⟩ : ∃ x, x = d[a]! := ⟨_, rfl⟩
          have la := S1.out.ld R (by omega) P ((i + j) / 2) (by omega)
          have lb := S1.out.ld R (by omega) P (a) (by omega)
          rw [← hxv] at la
          rw [← hyv] at lb
          have hc := S1.out.cmp HC.out (by omega) xv yv
          have hT' := hT
          rw [← hxv, ← hyv] at hT'
          have hd : decide (cf xv yv < 0) = true := hT'
          have hv := of_decide_eq_true hd
          clear hxv hyv hT'
          have HT := Lib.hid hT
          clear hT
          go_wp2_with fail
          go_quiet_grown (first | (go_at_fn g; refine Calls.grown_of (hc _ _)))
          have S2 : Aside (SWK enc k w0 blk off d (grow (wr.drewN nq) osq)) := S1.out.grown nq osq
          have hT := HT.out
          clear la lb hc S1 ea pa ba ra ec pc bc rc hv hd HT
          generalize grow (wr.drewN nq) osq = w2 at S2 ⊢
          clear nq osq
          go_wp2_with fail
          go_roundg (j - ((i + j) / 2 + 1))
          case measure => omega
          case rel => exact ⟨(i + j) / 2 + 1, j, by go_num, rfl, by omega, by omega, by omega, by omega, S2, ⟨fun _ => by rw [Nat.add_sub_cancel]; exact hT, HP.out.2⟩⟩
        | false =>
          have ea : (((i : Int) + (j : Int)) / 2).toNat = (i + j) / 2 := by omega
          have pa : (0 : Int) ≤ ((i : Int) + (j : Int)) / 2 := by omega
          have ba : ((i : Int) + (j : Int)) / 2 < (d.size : Int) := by omega
          have ra : IntKind.i64.wrap (((i : Int) + (j : Int)) / 2) = ((i : Int) + (j : Int)) / 2 := by rw [IntKind.wrap_i64]; omega
          have ec : ((a : Int)).toNat = a := by omega
          have pc : (0 : Int) ≤ (a : Int) := by omega
          have bc : (a : Int) < (d.size : Int) := by omega
          have rc : IntKind.i64.wrap ((a : Int)) = (a : Int) := by rw [IntKind.wrap_i64]; omega
          obtain ⟨xv, hxv⟩ : ∃ x, x = d[(i + j) / 2]! := ⟨_, rfl⟩
          obtain ⟨yv, hyv⟩ : ∃ x, x = d[a]! := ⟨_, rfl⟩
          have la := S1.out.ld R (by omega) P ((i + j) / 2) (by omega)
          have lb := S1.out.ld R (by omega) P (a) (by omega)
          rw [← hxv] at la
          rw [← hyv] at lb
          have hc := S1.out.cmp HC.out (by omega) xv yv
          have hT' := hT
          rw [← hxv, ← hyv] at hT'
          have hd : decide (cf xv yv < 0) = false := hT'
          have hv := of_decide_eq_false hd
          clear hxv hyv hT'
          have HT := Lib.hid hT
          clear hT
          go_wp2_with fail
          go_quiet_grown (first | (go_at_fn g; refine Calls.grown_of (hc _ _)))
          have S2 : Aside (SWK enc k w0 blk off d (grow (wr.drewN nq) osq)) := S1.out.grown nq osq
          have hT := HT.out
          clear la lb hc S1 ea pa ba ra ec pc bc rc hv hd HT
          generalize grow (wr.drewN nq) osq = w2 at S2 ⊢
          clear nq osq
          go_wp2_with fail
          go_roundg ((i + j) / 2 - i)
          case measure => omega
          case rel => exact ⟨i, (i + j) / 2, rfl, by go_num, by omega, by omega, by omega, by omega, S2, ⟨HP.out.1, fun _ => hT⟩⟩
      · have hlt' : ¬ (i : Int) < (j : Int) := by omega
        obtain rfl : i = j := by omega
        clear hlt hij hg
        go_wp2_with fail
        go_loopg [13] (b - a) (fun gx sk wx => ∃ (kk : Nat) (dk : Array α), sk = .int .i64 kk ∧ a ≤ kk ∧ kk + 1 ≤ i ∧ i - kk ≤ gx ∧ dk.size = d.size ∧ Aside (SWK enc k w0 blk off dk wx) ∧ Aside (PermIn a b d dk ∧ Rot d a (a + 1) (kk + 1) dk))
        case atStart => exact ⟨a, d, rfl, by omega, by omega, by omega, rfl, S1, permIn_refl _ _ _, rot_self (by omega) (by omega) (.inr rfl)⟩
        case round =>
          clear S1
          obtain ⟨kk, dk, rfl, hka, hki, hkg, hds, S1, HQ⟩ := hrel
          by_cases hlt : kk + 1 < i
          · have hlt' : (kk : Int) < (i : Int) - 1 := by omega
            go_upto_region 11 with (fail)
            have ea : ((kk : Int)).toNat = kk := by omega
            have pa : (0 : Int) ≤ (kk : Int) := by omega
            have ba : (kk : Int) < (d.size : Int) := by omega
            have ra : IntKind.i64.wrap ((kk : Int)) = (kk : Int) := by rw [IntKind.wrap_i64]; omega
            have ec : ((kk : Int) + 1).toNat = kk + 1 := by omega
            have pc : (0 : Int) ≤ (kk : Int) + 1 := by omega
            have bc : (kk : Int) + 1 < (d.size : Int) := by omega
            have rc : IntKind.i64.wrap ((kk : Int) + 1) = (kk : Int) + 1 := by rw [IntKind.wrap_i64]; omega
            have S2 : Aside (SWK enc k w0 blk off (swp dk (kk) (kk + 1)) ((wr.drew.setCells blk (off + (kk) * k) (enc dk[kk + 1]!)).setCells blk (off + (kk + 1) * k) (enc dk[kk]!))) := S1.out.swapped R (kk) (kk + 1) (by omega) (by omega)
            have la := S1.out.ld1 R (by omega) P (kk) (by omega)
            have lb := S1.out.ld1 R (by omega) P (kk + 1) (by omega)
            have sa := S1.out.st1 R (by omega) P (kk) (by omega) dk[kk + 1]!
            have sb := S1.out.st2 R (by omega) P (kk) (kk + 1) (by omega) (by omega) dk[kk + 1]! dk[kk]!
            have na : (enc dk[kk]!).length = k := R.hk _
            have nb : (enc dk[kk + 1]!).length = k := R.hk _
            generalize enc dk[kk]! = cI at S2 la sb na
            generalize enc dk[kk + 1]! = cJ at S2 lb sa sb nb
            clear S1
            go_wp2_with fail
            go_big_region_o
            clear la lb sa sb ea pa ba ra ec pc bc rc na nb
            generalize (wr.drew.setCells blk (off + (kk) * k) cJ).setCells blk (off + (kk + 1) * k) cI = w2 at S2 ⊢
            go_wp2
            go_roundg (i - (kk + 1))
            case measure => omega
            case rel => exact ⟨kk + 1, _, by go_num, by omega, by omega, by omega, by rw [size_swp]; exact hds, S2, permIn_trans _ _ _ _ _ HQ.out.1 (swp_permIn _ _ _ _ _ (by omega) (by omega) (by omega) (by omega) (by omega)), rot_up HQ.out.2 hka hds (by omega)⟩
          · have hlt' : ¬ (kk : Int) < (i : Int) - 1 := by omega
            obtain rfl : i = kk + 1 := by omega
            go_wp2_with fail
            (try simp only [Exit.inBlock, Exit.then])
            refine bodyPost_ret (results_none rfl _ _ _) rfl ?_
            refine ⟨rfl, dk, HQ.out.1, ?_, S1.out⟩
            have h1 := H1.out
            subst h1
            exact one_left hO HHL.out.2 hi hj HP.out.1 HP.out.2 HQ.out.2
  · have hq : ((m : Int) - (a : Int) == 1) = false := by simp; omega
    by_cases h2 : b = m + 1
    · have hq2 : ((b : Int) - (m : Int) == 1) = true := by simp; omega
      have H2 := Lib.hid h2
      clear h1 h2
      go_enter FG, Tryd.ntmps84
      go_wp2
      go_loopg [14, 15] (m - a) (fun gx si sj wr => ∃ (i j : Nat), si = .int .i64 i ∧ sj = .int .i64 j ∧ a ≤ i ∧ i ≤ j ∧ j ≤ m ∧ j - i ≤ gx ∧ Aside (SWK enc k w0 blk off d wr) ∧ Aside ((a < i → ltOf cf d[m]! d[i - 1]! = false) ∧ (j < m → ltOf cf d[m]! d[j]! = true)))
      case atStart => exact ⟨a, m, rfl, rfl, by omega, by omega, by omega, by omega, S0, fun h => by omega, fun h => by omega⟩
      case round =>
        clear S0
        obtain ⟨i, j, rfl, rfl, hi, hij, hj, hg, S1, HP⟩ := hrel
        by_cases hlt : i < j
        · have hlt' : (i : Int) < (j : Int) := by omega
          go_upto_region 17 with (fail)
          cases hT : ltOf cf d[m]! d[(i + j) / 2]! with
          | true =>
            have ea : ((m : Int)).toNat = m := by omega
            have pa : (0 : Int) ≤ (m : Int) := by omega
            have ba : (m : Int) < (d.size : Int) := by omega
            have ra : IntKind.i64.wrap ((m : Int)) = (m : Int) := by rw [IntKind.wrap_i64]; omega
            have ec : (((i : Int) + (j : Int)) / 2).toNat = (i + j) / 2 := by omega
            have pc : (0 : Int) ≤ ((i : Int) + (j : Int)) / 2 := by omega
            have bc : ((i : Int) + (j : Int)) / 2 < (d.size : Int) := by omega
            have rc : IntKind.i64.wrap (((i : Int) + (j : Int)) / 2) = ((i : Int) + (j : Int)) / 2 := by rw [IntKind.wrap_i64]; omega
            obtain ⟨xv, hxv⟩ : ∃ x, x = d[m]! := ⟨_, rfl⟩
            obtain ⟨yv, hyv⟩ : ∃ x, x = d[(i + j) / 2]! := ⟨_, rfl⟩
            have la := S1.out.ld R (by omega) P (m) (by omega)
            have lb := S1.out.ld R (by omega) P ((i + j) / 2) (by omega)
            rw [← hxv] at la
            rw [← hyv] at lb
            have hc := S1.out.cmp HC.out (by omega) xv yv
            have hT' := hT
            rw [← hxv, ← hyv] at hT'
            have hd : decide (cf xv yv < 0) = true := hT'
            have hv := of_decide_eq_true hd
            clear hxv hyv hT'
            have HT := Lib.hid hT
            clear hT
            go_wp2_with fail
            go_quiet_grown (first | (go_at_fn g; refine Calls.grown_of (hc _ _)))
            have S2 : Aside (SWK enc k w0 blk off d (grow (wr.drewN nq) osq)) := S1.out.grown nq osq
            have hT := HT.out
            clear la lb hc S1 ea pa ba ra ec pc bc rc hv hd HT
            generalize grow (wr.drewN nq) osq = w2 at S2 ⊢
            clear nq osq
            go_wp2_with fail
            go_roundg ((i + j) / 2 - i)
            case measure => omega
            case rel => exact ⟨i, (i + j) / 2, rfl, by go_num, by omega, by omega, by omega, by omega, S2, ⟨HP.out.1, fun _ => hT⟩⟩
          | false =>
            have ea : ((m : Int)).toNat = m := by omega
            have pa : (0 : Int) ≤ (m : Int) := by omega
            have ba : (m : Int) < (d.size : Int) := by omega
            have ra : IntKind.i64.wrap ((m : Int)) = (m : Int) := by rw [IntKind.wrap_i64]; omega
            have ec : (((i : Int) + (j : Int)) / 2).toNat = (i + j) / 2 := by omega
            have pc : (0 : Int) ≤ ((i : Int) + (j : Int)) / 2 := by omega
            have bc : ((i : Int) + (j : Int)) / 2 < (d.size : Int) := by omega
            have rc : IntKind.i64.wrap (((i : Int) + (j : Int)) / 2) = ((i : Int) + (j : Int)) / 2 := by rw [IntKind.wrap_i64]; omega
            obtain ⟨xv, hxv⟩ : ∃ x, x = d[m]! := ⟨_, rfl⟩
            obtain ⟨yv, hyv⟩ : ∃ x, x = d[(i + j) / 2]! := ⟨_, rfl⟩
            have la := S1.out.ld R (by omega) P (m) (by omega)
            have lb := S1.out.ld R (by omega) P ((i + j) / 2) (by omega)
            rw [← hxv] at la
            rw [← hyv] at lb
            have hc := S1.out.cmp HC.out (by omega) xv yv
            have hT' := hT
            rw [← hxv, ← hyv] at hT'
            have hd : decide (cf xv yv < 0) = false := hT'
            have hv := of_decide_eq_false hd
            clear hxv hyv hT'
            have HT := Lib.hid hT
            clear hT
            go_wp2_with fail
            go_quiet_grown (first | (go_at_fn g; refine Calls.grown_of (hc _ _)))
            have S2 : Aside (SWK enc k w0 blk off d (grow (wr.drewN nq) osq)) := S1.out.grown nq osq
            have hT := HT.out
            clear la lb hc S1 ea pa ba ra ec pc bc rc hv hd HT
            generalize grow (wr.drewN nq) osq = w2 at S2 ⊢
            clear nq osq
            go_wp2_with fail
            go_roundg (j - ((i + j) / 2 + 1))
            case measure => omega
            case rel => exact ⟨(i + j) / 2 + 1, j, by go_num, rfl, by omega, by omega, by omega, by omega, S2, ⟨fun _ => by rw [Nat.add_sub_cancel]; exact hT, HP.out.2⟩⟩
        · have hlt' : ¬ (i : Int) < (j : Int) := by omega
          obtain rfl : i = j := by omega
          clear hlt hij hg
          go_wp2_with fail
          go_loopg [17] (m - a) (fun gx sk wx => ∃ (kk : Nat) (dk : Array α), sk = .int .i64 kk ∧ i ≤ kk ∧ kk ≤ m ∧ kk - i ≤ gx ∧ dk.size = d.size ∧ Aside (SWK enc k w0 blk off dk wx) ∧ Aside (PermIn a b d dk ∧ Rot d kk m (m + 1) dk))
          case atStart => exact ⟨m, d, rfl, by omega, by omega, by omega, rfl, S1, permIn_refl _ _ _, rot_self (by omega) (by omega) (.inl rfl)⟩
          case round =>
            clear S1
            obtain ⟨kk, dk, rfl, hki, hkm, hkg, hds, S1, HQ⟩ := hrel
            by_cases hlt : i < kk
            · have hlt' : (i : Int) < (kk : Int) := by omega
              obtain ⟨kp, rfl⟩ : ∃ kp, kk = kp + 1 := ⟨kk - 1, by omega⟩
              have hlt2 : (i : Int) < (kp : Int) + 1 := by omega
              go_upto_region 23 with (fail)
              have ea : ((kp : Int) + 1).toNat = kp + 1 := by omega
              have pa : (0 : Int) ≤ (kp : Int) + 1 := by omega
              have ba : (kp : Int) + 1 < (d.size : Int) := by omega
              have ra : IntKind.i64.wrap ((kp : Int) + 1) = (kp : Int) + 1 := by rw [IntKind.wrap_i64]; omega
              have ec : ((kp : Int)).toNat = kp := by omega
              have pc : (0 : Int) ≤ (kp : Int) := by omega
              have bc : (kp : Int) < (d.size : Int) := by omega
              have rc : IntKind.i64.wrap ((kp : Int)) = (kp : Int) := by rw [IntKind.wrap_i64]; omega
              have S2 : Aside (SWK enc k w0 blk off (swp dk (kp + 1) (kp)) ((wr.drew.setCells blk (off + (kp + 1) * k) (enc dk[kp]!)).setCells blk (off + (kp) * k) (enc dk[kp + 1]!))) := S1.out.swapped R (kp + 1) (kp) (by omega) (by omega)
              have la := S1.out.ld1 R (by omega) P (kp + 1) (by omega)
              have lb := S1.out.ld1 R (by omega) P (kp) (by omega)
              have sa := S1.out.st1 R (by omega) P (kp + 1) (by omega) dk[kp]!
              have sb := S1.out.st2 R (by omega) P (kp + 1) (kp) (by omega) (by omega) dk[kp]! dk[kp + 1]!
              have na : (enc dk[kp + 1]!).length = k := R.hk _
              have nb : (enc dk[kp]!).length = k := R.hk _
              generalize enc dk[kp + 1]! = cI at S2 la sb na
              generalize enc dk[kp]! = cJ at S2 lb sa sb nb
              clear S1
              go_wp2_with fail
              go_big_region_o
              clear la lb sa sb ea pa ba ra ec pc bc rc na nb
              generalize (wr.drew.setCells blk (off + (kp + 1) * k) cJ).setCells blk (off + (kp) * k) cI = w2 at S2 ⊢
              go_wp2
              go_roundg (kp - i)
              case measure => omega
              case rel => exact ⟨kp, _, by go_num, by omega, by omega, by omega, by rw [size_swp]; exact hds, S2, permIn_trans _ _ _ _ _ HQ.out.1 (swp_permIn _ _ _ _ _ (by omega) (by omega) (by omega) (by omega) (by omega)), rot_down HQ.out.2 (by omega) hds (by omega)⟩
            · have hlt' : ¬ (i : Int) < (kk : Int) := by omega
              obtain rfl : i = kk := by omega
              go_wp2_with fail
              (try simp only [Exit.inBlock, Exit.then])
              refine bodyPost_ret (results_none rfl _ _ _) rfl ?_
              refine ⟨rfl, dk, HQ.out.1, ?_, S1.out⟩
              have h2 := H2.out
              subst h2
              exact one_right hO HHL.out.1 hi hj HP.out.1 HP.out.2 HQ.out.2
    · have hq2 : ((b : Int) - (m : Int) == 1) = false := by simp; omega
      obtain ⟨mid, hmid, hm1, hm2⟩ : ∃ mid : Nat, ((a : Int) + (b : Int)) / 2 = (mid : Int) ∧ 2 * mid ≤ a + b ∧ a + b ≤ 2 * mid + 1 := ⟨(a + b) / 2, by omega, by omega, by omega⟩
      by_cases hmm : mid < m
      · have hmm' : (mid : Int) < (m : Int) := by omega
        go_enter FG, Tryd.ntmps84
        go_upto_region 32 with (fail)
        clear hmid h1 h2 hq hq2
        go_wp2_with fail
        go_loopg [20, 21] (b - a) (fun gx ss sr wr => ∃ (s r : Nat), ss = .int .i64 s ∧ sr = .int .i64 r ∧ a ≤ s ∧ s ≤ r ∧ r ≤ m ∧ r ≤ mid ∧ mid + m ≤ b + s ∧ r - s ≤ gx ∧ Aside (SWK enc k w0 blk off d wr) ∧ Aside ((a < s → mid + m - s < b → ltOf cf d[mid + m - s]! d[s - 1]! = false) ∧ (r < m → m < mid + m - r → ltOf cf d[mid + m - r - 1]! d[r]! = true)))
        case atStart => exact ⟨mid + m - b, mid, by go_num, rfl, by omega, by omega, by omega, by omega, by omega, by omega, S0, fun _ h => by omega, fun _ h => by omega⟩
        case round =>
          clear S0
          obtain ⟨s, r, rfl, rfl, hi, hij, hj, hj2, hbs, hg, S1, HP⟩ := hrel
          by_cases hlt : s < r
          · have hlt' : (s : Int) < (r : Int) := by omega
            obtain ⟨c, hc0, hc1, hc2, hc3⟩ : ∃ c : Nat, ((s : Int) + (r : Int)) / 2 = (c : Int) ∧ s ≤ c ∧ c < r ∧ c = (s + r) / 2 := ⟨(s + r) / 2, by omega, by omega, by omega, rfl⟩
            clear hc3
            obtain ⟨q, hq0, hq1⟩ : ∃ q : Nat, (mid : Int) + (m : Int) - 1 - (c : Int) = (q : Int) ∧ q + c + 1 = mid + m := ⟨mid + m - 1 - c, by omega, by omega⟩
            go_upto_region 35 with (fail)
            cases hT : ltOf cf d[q]! d[c]! with
            | true =>
              have ea : ((q : Int)).toNat = q := by omega
              have pa : (0 : Int) ≤ (q : Int) := by omega
              have ba : (q : Int) < (d.size : Int) := by omega
              have ra : IntKind.i64.wrap ((q : Int)) = (q : Int) := by rw [IntKind.wrap_i64]; omega
              have ec : ((c : Int)).toNat = c := by omega
              have pc : (0 : Int) ≤ (c : Int) := by omega
              have bc : (c : Int) < (d.size : Int) := by omega
              have rc : IntKind.i64.wrap ((c : Int)) = (c : Int) := by rw [IntKind.wrap_i64]; omega
              obtain ⟨xv, hxv⟩ : ∃ x, x = d[q]! := ⟨_, rfl⟩
              obtain ⟨yv, hyv⟩ : ∃ x, x = d[c]! := ⟨_, rfl⟩
              have la := S1.out.ld R (by omega) P (q) (by omega)
              have lb := S1.out.ld R (by omega) P (c) (by omega)
              rw [← hxv] at la
              rw [← hyv] at lb
              have hc := S1.out.cmp HC.out (by omega) xv yv
              have hT' := hT
              rw [← hxv, ← hyv] at hT'
              have hd : decide (cf xv yv < 0) = true := hT'
              have hv := of_decide_eq_true hd
              clear hxv hyv hT'
              have HT := Lib.hid hT
              clear hT
              go_wp2_with fail
              go_quiet_grown (first | (go_at_fn g; refine Calls.grown_of (hc _ _)))
              have S2 : Aside (SWK enc k w0 blk off d (grow (wr.drewN nq) osq)) := S1.out.grown nq osq
              have hT := HT.out
              clear la lb hc S1 ea pa ba ra ec pc bc rc hv hd HT
              generalize grow (wr.drewN nq) osq = w2 at S2 ⊢
              clear nq osq
              clear hc0 hq0
              go_wp2_with fail
              go_roundg (c - s)
              case measure => omega
              case rel => exact ⟨s, c, rfl, rfl, by omega, by omega, by omega, by omega, by omega, by omega, S2, HP.out.1, fun _ _ => by rw [show mid + m - c - 1 = q by omega]; exact hT⟩
            | false =>
              have ea : ((q : Int)).toNat = q := by omega
              have pa : (0 : Int) ≤ (q : Int) := by omega
              have ba : (q : Int) < (d.size : Int) := by omega
              have ra : IntKind.i64.wrap ((q : Int)) = (q : Int) := by rw [IntKind.wrap_i64]; omega
              have ec : ((c : Int)).toNat = c := by omega
              have pc : (0 : Int) ≤ (c : Int) := by omega
              have bc : (c : Int) < (d.size : Int) := by omega
              have rc : IntKind.i64.wrap ((c : Int)) = (c : Int) := by rw [IntKind.wrap_i64]; omega
              obtain ⟨xv, hxv⟩ : ∃ x, x = d[q]! := ⟨_, rfl⟩
              obtain ⟨yv, hyv⟩ : ∃ x, x = d[c]! := ⟨_, rfl⟩
              have la := S1.out.ld R (by omega) P (q) (by omega)
              have lb := S1.out.ld R (by omega) P (c) (by omega)
              rw [← hxv] at la
              rw [← hyv] at lb
              have hc := S1.out.cmp HC.out (by omega) xv yv
              have hT' := hT
              rw [← hxv, ← hyv] at hT'
              have hd : decide (cf xv yv < 0) = false := hT'
              have hv := of_decide_eq_false hd
              clear hxv hyv hT'
              have HT := Lib.hid hT
              clear hT
              go_wp2_with fail
              go_quiet_grown (first | (go_at_fn g; refine Calls.grown_of (hc _ _)))
              have S2 : Aside (SWK enc k w0 blk off d (grow (wr.drewN nq) osq)) := S1.out.grown nq osq
              have hT := HT.out
              clear la lb hc S1 ea pa ba ra ec pc bc rc hv hd HT
              generalize grow (wr.drewN nq) osq = w2 at S2 ⊢
              clear nq osq
              clear hc0 hq0
              go_wp2_with fail
              go_roundg (r - (c + 1))
              case measure => omega
              case rel => exact ⟨c + 1, r, by go_num, rfl, by omega, by omega, by omega, by omega, by omega, by omega, S2, fun _ _ => by rw [Nat.add_sub_cancel, show mid + m - (c + 1) = q by omega]; exact hT, HP.out.2⟩
          · have hlt' : ¬ (s : Int) < (r : Int) := by omega
            obtain rfl : s = r := by omega
            obtain ⟨e, hE, he⟩ : ∃ e : Nat, (mid : Int) + (m : Int) - (s : Int) = (e : Int) ∧ s + e = mid + m := ⟨mid + m - s, by omega, by omega⟩
            have HM : Aside (∀ d1, Rot d s m e d1 → SortedIn (ltOf cf) a s d1 ∧ SortedIn (ltOf cf) s mid d1 ∧ SortedIn (ltOf cf) mid e d1 ∧ SortedIn (ltOf cf) e b d1 ∧ ∀ i j, a ≤ i → i < mid → mid ≤ j → j < b → ltOf cf d1[j]! d1[i]! = false) := fun d1 h => merge_ready hO HHL.out.1 HHL.out.2 hi hj (by omega) (by omega) he (fun h1 h2 => by have := HP.out.1 h1 (by omega); rwa [show mid + m - s = e by omega] at this) (fun h1 h2 => by have := HP.out.2 h1 (by omega); rwa [show mid + m - s - 1 = e - 1 by omega] at this) h
            clear hlt hij hg HP
            by_cases g1 : s < m
            · by_cases g2 : m < e
              · have g1' : (s : Int) < (m : Int) := by omega
                have g2' : (m : Int) < (e : Int) := by omega
                have hcall := rotate_any L enc g cb blk off cap s m e d0 d w0 wr R (by omega) S1.out (by omega) (by omega) (by omega) (by omega)
                clear S1
                go_upto_region 41 with (go_at_fn 97; refine hcall.mono ?_; rintro e w1 ⟨rfl, d1, q1, hrot, S2⟩)
                have HP1 := permIn_mono _ _ _ _ a b (by omega) (by omega) (by omega) q1
                clear q1 hcall
                have HT := Lib.hid (HM.out d1 hrot)
                have hs1 : d1.size = d.size := HP1.1
                have S3 := Lib.hid S2
                clear hrot S2
                by_cases g3 : a < s
                · by_cases g4 : s < mid
                  · try (exfalso; omega)
                    all_goals
                      have g3' : (a : Int) < (s : Int) := by omega
                      have g4' : (s : Int) < (mid : Int) := by omega
                      have hcall := IH.out a s mid d1 _ (by omega) (by omega) S3.out g3 g4 (by omega) (by omega) HT.out.1 HT.out.2.1
                      rw [hs1] at hcall
                      have HS1 := Lib.hid hs1
                      clear S3 hs1
                      go_upto_region 43 with (go_at_fn 84; refine hcall.mono ?_; rintro e w1 ⟨rfl, d2, HP2, HQ2, S2⟩)
                      have S3 := Lib.hid S2
                      clear S2 hcall
                      have hs2 : d2.size = d.size := HP2.1.trans HS1.out
                      have HE2 := Lib.hid (show SortedIn (ltOf cf) mid e d2 ∧ SortedIn (ltOf cf) e b d2 from ⟨sorted_congr HT.out.2.2.1 fun i h1 _ => HP2.2.1 i (.inr h1), sorted_congr HT.out.2.2.2.1 fun i h1 _ => HP2.2.1 i (.inr (by omega))⟩)
                      have HFin := Lib.hid (show ∀ d3, PermIn mid b d2 d3 → SortedIn (ltOf cf) mid b d3 → PermIn a b d d3 ∧ SortedIn (ltOf cf) a b d3 from fun d3 h1 h2 => by
                        have hs1 := HS1.out
                        have := merge_done (by omega) (by omega) (by omega) HT.out.2.2.2.2 HP2 HQ2 h1 h2
                        exact ⟨permIn_trans _ _ _ _ _ HP1 this.1, this.2⟩)
                      have HS2 := Lib.hid hs2
                      clear HP2 HQ2 hs2
                      by_cases g5 : mid < e
                      · by_cases g6 : e < b
                        · try (exfalso; omega)
                          all_goals
                            have g5' : (mid : Int) < (e : Int) := by omega
                            have g6' : (e : Int) < (b : Int) := by omega
                            have hcall := IH.out mid e b d2 _ (by omega) (by rw [HS2.out]; omega) S3.out g5 g6 (by rw [HS2.out]; omega) (by rw [HS2.out]; omega) HE2.out.1 HE2.out.2
                            rw [HS2.out] at hcall
                            clear S3
                            go_wp2_with (go_at_fn 84; refine hcall.mono ?_; rintro e w1 ⟨rfl, d3, q1, q2, q3⟩)
                            go_end0
                            exact ⟨rfl, d3, (HFin.out d3 q1 q2).1, (HFin.out d3 q1 q2).2, q3⟩
                        · try (exfalso; omega)
                          all_goals
                            have g5' : (mid : Int) < (e : Int) := by omega
                            have g6' : ¬ (e : Int) < (b : Int) := by omega
                            have HF := Lib.hid (HFin.out d2 (permIn_refl _ _ _) (by rw [show b = e by omega]; exact HE2.out.1))
                            go_wp2_with fail
                            go_end0
                            exact ⟨rfl, d2, HF.out.1, HF.out.2, S3.out⟩
                      · try (exfalso; omega)
                        all_goals
                          have g5' : ¬ (mid : Int) < (e : Int) := by omega
                          have HF := Lib.hid (HFin.out d2 (permIn_refl _ _ _) (by rw [show mid = e by omega]; exact HE2.out.2))
                          go_wp2_with fail
                          go_end0
                          exact ⟨rfl, d2, HF.out.1, HF.out.2, S3.out⟩
                  · try (exfalso; omega)
                    all_goals
                      have g3' : (a : Int) < (s : Int) := by omega
                      have g4' : ¬ (s : Int) < (mid : Int) := by omega
                      have HP2 := permIn_refl d1 a mid
                      have HQ2 : SortedIn (ltOf cf) a mid d1 := by rw [show mid = s by omega]; exact HT.out.1
                      have HS1 := Lib.hid hs1
                      clear hs1
                      obtain ⟨d2, hd2⟩ : ∃ d2, d2 = d1 := ⟨_, rfl⟩
                      rw [show PermIn a mid d1 d1 = PermIn a mid d1 d2 by rw [hd2]] at HP2
                      rw [← hd2] at S3 HQ2
                      clear hd2
                      go_upto_region 43 with (fail)
                      have hs2 : d2.size = d.size := HP2.1.trans HS1.out
                      have HE2 := Lib.hid (show SortedIn (ltOf cf) mid e d2 ∧ SortedIn (ltOf cf) e b d2 from ⟨sorted_congr HT.out.2.2.1 fun i h1 _ => HP2.2.1 i (.inr h1), sorted_congr HT.out.2.2.2.1 fun i h1 _ => HP2.2.1 i (.inr (by omega))⟩)
                      have HFin := Lib.hid (show ∀ d3, PermIn mid b d2 d3 → SortedIn (ltOf cf) mid b d3 → PermIn a b d d3 ∧ SortedIn (ltOf cf) a b d3 from fun d3 h1 h2 => by
                        have hs1 := HS1.out
                        have := merge_done (by omega) (by omega) (by omega) HT.out.2.2.2.2 HP2 HQ2 h1 h2
                        exact ⟨permIn_trans _ _ _ _ _ HP1 this.1, this.2⟩)
                      have HS2 := Lib.hid hs2
                      clear HP2 HQ2 hs2
                      by_cases g5 : mid < e
                      · by_cases g6 : e < b
                        · try (exfalso; omega)
                          all_goals
                            have g5' : (mid : Int) < (e : Int) := by omega
                            have g6' : (e : Int) < (b : Int) := by omega
                            have hcall := IH.out mid e b d2 _ (by omega) (by rw [HS2.out]; omega) S3.out g5 g6 (by rw [HS2.out]; omega) (by rw [HS2.out]; omega) HE2.out.1 HE2.out.2
                            rw [HS2.out] at hcall
                            clear S3
                            go_wp2_with (go_at_fn 84; refine hcall.mono ?_; rintro e w1 ⟨rfl, d3, q1, q2, q3⟩)
                            go_end0
                            exact ⟨rfl, d3, (HFin.out d3 q1 q2).1, (HFin.out d3 q1 q2).2, q3⟩
                        · try (exfalso; omega)
                          all_goals
                            have g5' : (mid : Int) < (e : Int) := by omega
                            have g6' : ¬ (e : Int) < (b : Int) := by omega
                            have HF := Lib.hid (HFin.out d2 (permIn_refl _ _ _) (by rw [show b = e by omega]; exact HE2.out.1))
                            go_wp2_with fail
                            go_end0
                            exact ⟨rfl, d2, HF.out.1, HF.out.2, S3.out⟩
                      · try (exfalso; omega)
                        all_goals
                          have g5' : ¬ (mid : Int) < (e : Int) := by omega
                          have HF := Lib.hid (HFin.out d2 (permIn_refl _ _ _) (by rw [show mid = e by omega]; exact HE2.out.2))
                          go_wp2_with fail
                          go_end0
                          exact ⟨rfl, d2, HF.out.1, HF.out.2, S3.out⟩
                · try (exfalso; omega)
                  all_goals
                    have g3' : ¬ (a : Int) < (s : Int) := by omega
                    have HP2 := permIn_refl d1 a mid
                    have HQ2 : SortedIn (ltOf cf) a mid d1 := by rw [show a = s by omega]; exact HT.out.2.1
                    have HS1 := Lib.hid hs1
                    clear hs1
                    obtain ⟨d2, hd2⟩ : ∃ d2, d2 = d1 := ⟨_, rfl⟩
                    rw [show PermIn a mid d1 d1 = PermIn a mid d1 d2 by rw [hd2]] at HP2
                    rw [← hd2] at S3 HQ2
                    clear hd2
                    go_upto_region 43 with (fail)
                    have hs2 : d2.size = d.size := HP2.1.trans HS1.out
                    have HE2 := Lib.hid (show SortedIn (ltOf cf) mid e d2 ∧ SortedIn (ltOf cf) e b d2 from ⟨sorted_congr HT.out.2.2.1 fun i h1 _ => HP2.2.1 i (.inr h1), sorted_congr HT.out.2.2.2.1 fun i h1 _ => HP2.2.1 i (.inr (by omega))⟩)
                    have HFin := Lib.hid (show ∀ d3, PermIn mid b d2 d3 → SortedIn (ltOf cf) mid b d3 → PermIn a b d d3 ∧ SortedIn (ltOf cf) a b d3 from fun d3 h1 h2 => by
                      have hs1 := HS1.out
                      have := merge_done (by omega) (by omega) (by omega) HT.out.2.2.2.2 HP2 HQ2 h1 h2
                      exact ⟨permIn_trans _ _ _ _ _ HP1 this.1, this.2⟩)
                    have HS2 := Lib.hid hs2
                    clear HP2 HQ2 hs2
                    by_cases g5 : mid < e
                    · by_cases g6 : e < b
                      · try (exfalso; omega)
                        all_goals
                          have g5' : (mid : Int) < (e : Int) := by omega
                          have g6' : (e : Int) < (b : Int) := by omega
                          have hcall := IH.out mid e b d2 _ (by omega) (by rw [HS2.out]; omega) S3.out g5 g6 (by rw [HS2.out]; omega) (by rw [HS2.out]; omega) HE2.out.1 HE2.out.2
                          rw [HS2.out] at hcall
                          clear S3
                          go_wp2_with (go_at_fn 84; refine hcall.mono ?_; rintro e w1 ⟨rfl, d3, q1, q2, q3⟩)
                          go_end0
                          exact ⟨rfl, d3, (HFin.out d3 q1 q2).1, (HFin.out d3 q1 q2).2, q3⟩
                      · try (exfalso; omega)
                        all_goals
                          have g5' : (mid : Int) < (e : Int) := by omega
                          have g6' : ¬ (e : Int) < (b : Int) := by omega
                          have HF := Lib.hid (HFin.out d2 (permIn_refl _ _ _) (by rw [show b = e by omega]; exact HE2.out.1))
                          go_wp2_with fail
                          go_end0
                          exact ⟨rfl, d2, HF.out.1, HF.out.2, S3.out⟩
                    · try (exfalso; omega)
                      all_goals
                        have g5' : ¬ (mid : Int) < (e : Int) := by omega
                        have HF := Lib.hid (HFin.out d2 (permIn_refl _ _ _) (by rw [show mid = e by omega]; exact HE2.out.2))
                        go_wp2_with fail
                        go_end0
                        exact ⟨rfl, d2, HF.out.1, HF.out.2, S3.out⟩
              · have g1' : (s : Int) < (m : Int) := by omega
                have g2' : ¬ (m : Int) < (e : Int) := by omega
                have hrot := rot_self (d := d) (x := s) (m := m) (y := e) (by omega) (by omega) (.inr (by omega))
                have HP1 := permIn_refl d a b
                have S2 := S1.out
                clear S1
                obtain ⟨d1, hd1⟩ : ∃ d1, d1 = d := ⟨_, rfl⟩
                rw [show Rot d s m e d = Rot d s m e d1 by rw [hd1]] at hrot
                rw [show PermIn a b d d = PermIn a b d d1 by rw [hd1]] at HP1
                rw [← hd1] at S2
                clear hd1
                go_upto_region 41 with (fail)
                have HT := Lib.hid (HM.out d1 hrot)
                have hs1 : d1.size = d.size := HP1.1
                have S3 := Lib.hid S2
                clear hrot S2
                by_cases g3 : a < s
                · by_cases g4 : s < mid
                  · try (exfalso; omega)
                    all_goals
                      have g3' : (a : Int) < (s : Int) := by omega
                      have g4' : (s : Int) < (mid : Int) := by omega
                      have hcall := IH.out a s mid d1 _ (by omega) (by omega) S3.out g3 g4 (by omega) (by omega) HT.out.1 HT.out.2.1
                      rw [hs1] at hcall
                      have HS1 := Lib.hid hs1
                      clear S3 hs1
                      go_upto_region 43 with (go_at_fn 84; refine hcall.mono ?_; rintro e w1 ⟨rfl, d2, HP2, HQ2, S2⟩)
                      have S3 := Lib.hid S2
                      clear S2 hcall
                      have hs2 : d2.size = d.size := HP2.1.trans HS1.out
                      have HE2 := Lib.hid (show SortedIn (ltOf cf) mid e d2 ∧ SortedIn (ltOf cf) e b d2 from ⟨sorted_congr HT.out.2.2.1 fun i h1 _ => HP2.2.1 i (.inr h1), sorted_congr HT.out.2.2.2.1 fun i h1 _ => HP2.2.1 i (.inr (by omega))⟩)
                      have HFin := Lib.hid (show ∀ d3, PermIn mid b d2 d3 → SortedIn (ltOf cf) mid b d3 → PermIn a b d d3 ∧ SortedIn (ltOf cf) a b d3 from fun d3 h1 h2 => by
                        have hs1 := HS1.out
                        have := merge_done (by omega) (by omega) (by omega) HT.out.2.2.2.2 HP2 HQ2 h1 h2
                        exact ⟨permIn_trans _ _ _ _ _ HP1 this.1, this.2⟩)
                      have HS2 := Lib.hid hs2
                      clear HP2 HQ2 hs2
                      by_cases g5 : mid < e
                      · by_cases g6 : e < b
                        · try (exfalso; omega)
                          all_goals
                            have g5' : (mid : Int) < (e : Int) := by omega
                            have g6' : (e : Int) < (b : Int) := by omega
                            have hcall := IH.out mid e b d2 _ (by omega) (by rw [HS2.out]; omega) S3.out g5 g6 (by rw [HS2.out]; omega) (by rw [HS2.out]; omega) HE2.out.1 HE2.out.2
                            rw [HS2.out] at hcall
                            clear S3
                            go_wp2_with (go_at_fn 84; refine hcall.mono ?_; rintro e w1 ⟨rfl, d3, q1, q2, q3⟩)
                            go_end0
                            exact ⟨rfl, d3, (HFin.out d3 q1 q2).1, (HFin.out d3 q1 q2).2, q3⟩
                        · try (exfalso; omega)
                          all_goals
                            have g5' : (mid : Int) < (e : Int) := by omega
                            have g6' : ¬ (e : Int) < (b : Int) := by omega
                            have HF := Lib.hid (HFin.out d2 (permIn_refl _ _ _) (by rw [show b = e by omega]; exact HE2.out.1))
                            go_wp2_with fail
                            go_end0
                            exact ⟨rfl, d2, HF.out.1, HF.out.2, S3.out⟩
                      · try (exfalso; omega)
                        all_goals
                          have g5' : ¬ (mid : Int) < (e : Int) := by omega
                          have HF := Lib.hid (HFin.out d2 (permIn_refl _ _ _) (by rw [show mid = e by omega]; exact HE2.out.2))
                          go_wp2_with fail
                          go_end0
                          exact ⟨rfl, d2, HF.out.1, HF.out.2, S3.out⟩
                  · try (exfalso; omega)
                    all_goals
                      have g3' : (a : Int) < (s : Int) := by omega
                      have g4' : ¬ (s : Int) < (mid : Int) := by omega
                      have HP2 := permIn_refl d1 a mid
                      have HQ2 : SortedIn (ltOf cf) a mid d1 := by rw [show mid = s by omega]; exact HT.out.1
                      have HS1 := Lib.hid hs1
                      clear hs1
                      obtain ⟨d2, hd2⟩ : ∃ d2, d2 = d1 := ⟨_, rfl⟩
                      rw [show PermIn a mid d1 d1 = PermIn a mid d1 d2 by rw [hd2]] at HP2
                      rw [← hd2] at S3 HQ2
                      clear hd2
                      go_upto_region 43 with (fail)
                      have hs2 : d2.size = d.size := HP2.1.trans HS1.out
                      have HE2 := Lib.hid (show SortedIn (ltOf cf) mid e d2 ∧ SortedIn (ltOf cf) e b d2 from ⟨sorted_congr HT.out.2.2.1 fun i h1 _ => HP2.2.1 i (.inr h1), sorted_congr HT.out.2.2.2.1 fun i h1 _ => HP2.2.1 i (.inr (by omega))⟩)
                      have HFin := Lib.hid (show ∀ d3, PermIn mid b d2 d3 → SortedIn (ltOf cf) mid b d3 → PermIn a b d d3 ∧ SortedIn (ltOf cf) a b d3 from fun d3 h1 h2 => by
                        have hs1 := HS1.out
                        have := merge_done (by omega) (by omega) (by omega) HT.out.2.2.2.2 HP2 HQ2 h1 h2
                        exact ⟨permIn_trans _ _ _ _ _ HP1 this.1, this.2⟩)
                      have HS2 := Lib.hid hs2
                      clear HP2 HQ2 hs2
                      by_cases g5 : mid < e
                      · by_cases g6 : e < b
                        · try (exfalso; omega)
                          all_goals
                            have g5' : (mid : Int) < (e : Int) := by omega
                            have g6' : (e : Int) < (b : Int) := by omega
                            have hcall := IH.out mid e b d2 _ (by omega) (by rw [HS2.out]; omega) S3.out g5 g6 (by rw [HS2.out]; omega) (by rw [HS2.out]; omega) HE2.out.1 HE2.out.2
                            rw [HS2.out] at hcall
                            clear S3
                            go_wp2_with (go_at_fn 84; refine hcall.mono ?_; rintro e w1 ⟨rfl, d3, q1, q2, q3⟩)
                            go_end0
                            exact ⟨rfl, d3, (HFin.out d3 q1 q2).1, (HFin.out d3 q1 q2).2, q3⟩
                        · try (exfalso; omega)
                          all_goals
                            have g5' : (mid : Int) < (e : Int) := by omega
                            have g6' : ¬ (e : Int) < (b : Int) := by omega
                            have HF := Lib.hid (HFin.out d2 (permIn_refl _ _ _) (by rw [show b = e by omega]; exact HE2.out.1))
                            go_wp2_with fail
                            go_end0
                            exact ⟨rfl, d2, HF.out.1, HF.out.2, S3.out⟩
                      · try (exfalso; omega)
                        all_goals
                          have g5' : ¬ (mid : Int) < (e : Int) := by omega
                          have HF := Lib.hid (HFin.out d2 (permIn_refl _ _ _) (by rw [show mid = e by omega]; exact HE2.out.2))
                          go_wp2_with fail
                          go_end0
                          exact ⟨rfl, d2, HF.out.1, HF.out.2, S3.out⟩
                · try (exfalso; omega)
                  all_goals
                    have g3' : ¬ (a : Int) < (s : Int) := by omega
                    have HP2 := permIn_refl d1 a mid
                    have HQ2 : SortedIn (ltOf cf) a mid d1 := by rw [show a = s by omega]; exact HT.out.2.1
                    have HS1 := Lib.hid hs1
                    clear hs1
                    obtain ⟨d2, hd2⟩ : ∃ d2, d2 = d1 := ⟨_, rfl⟩
                    rw [show PermIn a mid d1 d1 = PermIn a mid d1 d2 by rw [hd2]] at HP2
                    rw [← hd2] at S3 HQ2
                    clear hd2
                    go_upto_region 43 with (fail)
                    have hs2 : d2.size = d.size := HP2.1.trans HS1.out
                    have HE2 := Lib.hid (show SortedIn (ltOf cf) mid e d2 ∧ SortedIn (ltOf cf) e b d2 from ⟨sorted_congr HT.out.2.2.1 fun i h1 _ => HP2.2.1 i (.inr h1), sorted_congr HT.out.2.2.2.1 fun i h1 _ => HP2.2.1 i (.inr (by omega))⟩)
                    have HFin := Lib.hid (show ∀ d3, PermIn mid b d2 d3 → SortedIn (ltOf cf) mid b d3 → PermIn a b d d3 ∧ SortedIn (ltOf cf) a b d3 from fun d3 h1 h2 => by
                      have hs1 := HS1.out
                      have := merge_done (by omega) (by omega) (by omega) HT.out.2.2.2.2 HP2 HQ2 h1 h2
                      exact ⟨permIn_trans _ _ _ _ _ HP1 this.1, this.2⟩)
                    have HS2 := Lib.hid hs2
                    clear HP2 HQ2 hs2
                    by_cases g5 : mid < e
                    · by_cases g6 : e < b
                      · try (exfalso; omega)
                        all_goals
                          have g5' : (mid : Int) < (e : Int) := by omega
                          have g6' : (e : Int) < (b : Int) := by omega
                          have hcall := IH.out mid e b d2 _ (by omega) (by rw [HS2.out]; omega) S3.out g5 g6 (by rw [HS2.out]; omega) (by rw [HS2.out]; omega) HE2.out.1 HE2.out.2
                          rw [HS2.out] at hcall
                          clear S3
                          go_wp2_with (go_at_fn 84; refine hcall.mono ?_; rintro e w1 ⟨rfl, d3, q1, q2, q3⟩)
                          go_end0
                          exact ⟨rfl, d3, (HFin.out d3 q1 q2).1, (HFin.out d3 q1 q2).2, q3⟩
                      · try (exfalso; omega)
                        all_goals
                          have g5' : (mid : Int) < (e : Int) := by omega
                          have g6' : ¬ (e : Int) < (b : Int) := by omega
                          have HF := Lib.hid (HFin.out d2 (permIn_refl _ _ _) (by rw [show b = e by omega]; exact HE2.out.1))
                          go_wp2_with fail
                          go_end0
                          exact ⟨rfl, d2, HF.out.1, HF.out.2, S3.out⟩
                    · try (exfalso; omega)
                      all_goals
                        have g5' : ¬ (mid : Int) < (e : Int) := by omega
                        have HF := Lib.hid (HFin.out d2 (permIn_refl _ _ _) (by rw [show mid = e by omega]; exact HE2.out.2))
                        go_wp2_with fail
                        go_end0
                        exact ⟨rfl, d2, HF.out.1, HF.out.2, S3.out⟩
            · have g1' : ¬ (s : Int) < (m : Int) := by omega
              have hrot := rot_self (d := d) (x := s) (m := m) (y := e) (by omega) (by omega) (.inl (by omega))
              have HP1 := permIn_refl d a b
              have S2 := S1.out
              clear S1
              obtain ⟨d1, hd1⟩ : ∃ d1, d1 = d := ⟨_, rfl⟩
              rw [show Rot d s m e d = Rot d s m e d1 by rw [hd1]] at hrot
              rw [show PermIn a b d d = PermIn a b d d1 by rw [hd1]] at HP1
              rw [← hd1] at S2
              clear hd1
              go_upto_region 41 with (fail)
              have HT := Lib.hid (HM.out d1 hrot)
              have hs1 : d1.size = d.size := HP1.1
              have S3 := Lib.hid S2
              clear hrot S2
              by_cases g3 : a < s
              · by_cases g4 : s < mid
                · try (exfalso; omega)
                  all_goals
                    have g3' : (a : Int) < (s : Int) := by omega
                    have g4' : (s : Int) < (mid : Int) := by omega
                    have hcall := IH.out a s mid d1 _ (by omega) (by omega) S3.out g3 g4 (by omega) (by omega) HT.out.1 HT.out.2.1
                    rw [hs1] at hcall
                    have HS1 := Lib.hid hs1
                    clear S3 hs1
                    go_upto_region 43 with (go_at_fn 84; refine hcall.mono ?_; rintro e w1 ⟨rfl, d2, HP2, HQ2, S2⟩)
                    have S3 := Lib.hid S2
                    clear S2 hcall
                    have hs2 : d2.size = d.size := HP2.1.trans HS1.out
                    have HE2 := Lib.hid (show SortedIn (ltOf cf) mid e d2 ∧ SortedIn (ltOf cf) e b d2 from ⟨sorted_congr HT.out.2.2.1 fun i h1 _ => HP2.2.1 i (.inr h1), sorted_congr HT.out.2.2.2.1 fun i h1 _ => HP2.2.1 i (.inr (by omega))⟩)
                    have HFin := Lib.hid (show ∀ d3, PermIn mid b d2 d3 → SortedIn (ltOf cf) mid b d3 → PermIn a b d d3 ∧ SortedIn (ltOf cf) a b d3 from fun d3 h1 h2 => by
                      have hs1 := HS1.out
                      have := merge_done (by omega) (by omega) (by omega) HT.out.2.2.2.2 HP2 HQ2 h1 h2
                      exact ⟨permIn_trans _ _ _ _ _ HP1 this.1, this.2⟩)
                    have HS2 := Lib.hid hs2
                    clear HP2 HQ2 hs2
                    by_cases g5 : mid < e
                    · by_cases g6 : e < b
                      · try (exfalso; omega)
                        all_goals
                          have g5' : (mid : Int) < (e : Int) := by omega
                          have g6' : (e : Int) < (b : Int) := by omega
                          have hcall := IH.out mid e b d2 _ (by omega) (by rw [HS2.out]; omega) S3.out g5 g6 (by rw [HS2.out]; omega) (by rw [HS2.out]; omega) HE2.out.1 HE2.out.2
                          rw [HS2.out] at hcall
                          clear S3
                          go_wp2_with (go_at_fn 84; refine hcall.mono ?_; rintro e w1 ⟨rfl, d3, q1, q2, q3⟩)
                          go_end0
                          exact ⟨rfl, d3, (HFin.out d3 q1 q2).1, (HFin.out d3 q1 q2).2, q3⟩
                      · try (exfalso; omega)
                        all_goals
                          have g5' : (mid : Int) < (e : Int) := by omega
                          have g6' : ¬ (e : Int) < (b : Int) := by omega
                          have HF := Lib.hid (HFin.out d2 (permIn_refl _ _ _) (by rw [show b = e by omega]; exact HE2.out.1))
                          go_wp2_with fail
                          go_end0
                          exact ⟨rfl, d2, HF.out.1, HF.out.2, S3.out⟩
                    · try (exfalso; omega)
                      all_goals
                        have g5' : ¬ (mid : Int) < (e : Int) := by omega
                        have HF := Lib.hid (HFin.out d2 (permIn_refl _ _ _) (by rw [show mid = e by omega]; exact HE2.out.2))
                        go_wp2_with fail
                        go_end0
                        exact ⟨rfl, d2, HF.out.1, HF.out.2, S3.out⟩
                · try (exfalso; omega)
                  all_goals
                    have g3' : (a : Int) < (s : Int) := by omega
                    have g4' : ¬ (s : Int) < (mid : Int) := by omega
                    have HP2 := permIn_refl d1 a mid
                    have HQ2 : SortedIn (ltOf cf) a mid d1 := by rw [show mid = s by omega]; exact HT.out.1
                    have HS1 := Lib.hid hs1
                    clear hs1
                    obtain ⟨d2, hd2⟩ : ∃ d2, d2 = d1 := ⟨_, rfl⟩
                    rw [show PermIn a mid d1 d1 = PermIn a mid d1 d2 by rw [hd2]] at HP2
                    rw [← hd2] at S3 HQ2
                    clear hd2
                    go_upto_region 43 with (fail)
                    have hs2 : d2.size = d.size := HP2.1.trans HS1.out
                    have HE2 := Lib.hid (show SortedIn (ltOf cf) mid e d2 ∧ SortedIn (ltOf cf) e b d2 from ⟨sorted_congr HT.out.2.2.1 fun i h1 _ => HP2.2.1 i (.inr h1), sorted_congr HT.out.2.2.2.1 fun i h1 _ => HP2.2.1 i (.inr (by omega))⟩)
                    have HFin := Lib.hid (show ∀ d3, PermIn mid b d2 d3 → SortedIn (ltOf cf) mid b d3 → PermIn a b d d3 ∧ SortedIn (ltOf cf) a b d3 from fun d3 h1 h2 => by
                      have hs1 := HS1.out
                      have := merge_done (by omega) (by omega) (by omega) HT.out.2.2.2.2 HP2 HQ2 h1 h2
                      exact ⟨permIn_trans _ _ _ _ _ HP1 this.1, this.2⟩)
                    have HS2 := Lib.hid hs2
                    clear HP2 HQ2 hs2
                    by_cases g5 : mid < e
                    · by_cases g6 : e < b
                      · try (exfalso; omega)
                        all_goals
                          have g5' : (mid : Int) < (e : Int) := by omega
                          have g6' : (e : Int) < (b : Int) := by omega
                          have hcall := IH.out mid e b d2 _ (by omega) (by rw [HS2.out]; omega) S3.out g5 g6 (by rw [HS2.out]; omega) (by rw [HS2.out]; omega) HE2.out.1 HE2.out.2
                          rw [HS2.out] at hcall
                          clear S3
                          go_wp2_with (go_at_fn 84; refine hcall.mono ?_; rintro e w1 ⟨rfl, d3, q1, q2, q3⟩)
                          go_end0
                          exact ⟨rfl, d3, (HFin.out d3 q1 q2).1, (HFin.out d3 q1 q2).2, q3⟩
                      · try (exfalso; omega)
                        all_goals
                          have g5' : (mid : Int) < (e : Int) := by omega
                          have g6' : ¬ (e : Int) < (b : Int) := by omega
                          have HF := Lib.hid (HFin.out d2 (permIn_refl _ _ _) (by rw [show b = e by omega]; exact HE2.out.1))
                          go_wp2_with fail
                          go_end0
                          exact ⟨rfl, d2, HF.out.1, HF.out.2, S3.out⟩
                    · try (exfalso; omega)
                      all_goals
                        have g5' : ¬ (mid : Int) < (e : Int) := by omega
                        have HF := Lib.hid (HFin.out d2 (permIn_refl _ _ _) (by rw [show mid = e by omega]; exact HE2.out.2))
                        go_wp2_with fail
                        go_end0
                        exact ⟨rfl, d2, HF.out.1, HF.out.2, S3.out⟩
              · try (exfalso; omega)
                all_goals
                  have g3' : ¬ (a : Int) < (s : Int) := by omega
                  have HP2 := permIn_refl d1 a mid
                  have HQ2 : SortedIn (ltOf cf) a mid d1 := by rw [show a = s by omega]; exact HT.out.2.1
                  have HS1 := Lib.hid hs1
                  clear hs1
                  obtain ⟨d2, hd2⟩ : ∃ d2, d2 = d1 := ⟨_, rfl⟩
                  rw [show PermIn a mid d1 d1 = PermIn a mid d1 d2 by rw [hd2]] at HP2
                  rw [← hd2] at S3 HQ2
                  clear hd2
                  go_upto_region 43 with (fail)
                  have hs2 : d2.size = d.size := HP2.1.trans HS1.out
                  have HE2 := Lib.hid (show SortedIn (ltOf cf) mid e d2 ∧ SortedIn (ltOf cf) e b d2 from ⟨sorted_congr HT.out.2.2.1 fun i h1 _ => HP2.2.1 i (.inr h1), sorted_congr HT.out.2.2.2.1 fun i h1 _ => HP2.2.1 i (.inr (by omega))⟩)
                  have HFin := Lib.hid (show ∀ d3, PermIn mid b d2 d3 → SortedIn (ltOf cf) mid b d3 → PermIn a b d d3 ∧ SortedIn (ltOf cf) a b d3 from fun d3 h1 h2 => by
                    have hs1 := HS1.out
                    have := merge_done (by omega) (by omega) (by omega) HT.out.2.2.2.2 HP2 HQ2 h1 h2
                    exact ⟨permIn_trans _ _ _ _ _ HP1 this.1, this.2⟩)
                  have HS2 := Lib.hid hs2
                  clear HP2 HQ2 hs2
                  by_cases g5 : mid < e
                  · by_cases g6 : e < b
                    · try (exfalso; omega)
                      all_goals
                        have g5' : (mid : Int) < (e : Int) := by omega
                        have g6' : (e : Int) < (b : Int) := by omega
                        have hcall := IH.out mid e b d2 _ (by omega) (by rw [HS2.out]; omega) S3.out g5 g6 (by rw [HS2.out]; omega) (by rw [HS2.out]; omega) HE2.out.1 HE2.out.2
                        rw [HS2.out] at hcall
                        clear S3
                        go_wp2_with (go_at_fn 84; refine hcall.mono ?_; rintro e w1 ⟨rfl, d3, q1, q2, q3⟩)
                        go_end0
                        exact ⟨rfl, d3, (HFin.out d3 q1 q2).1, (HFin.out d3 q1 q2).2, q3⟩
                    · try (exfalso; omega)
                      all_goals
                        have g5' : (mid : Int) < (e : Int) := by omega
                        have g6' : ¬ (e : Int) < (b : Int) := by omega
                        have HF := Lib.hid (HFin.out d2 (permIn_refl _ _ _) (by rw [show b = e by omega]; exact HE2.out.1))
                        go_wp2_with fail
                        go_end0
                        exact ⟨rfl, d2, HF.out.1, HF.out.2, S3.out⟩
                  · try (exfalso; omega)
                    all_goals
                      have g5' : ¬ (mid : Int) < (e : Int) := by omega
                      have HF := Lib.hid (HFin.out d2 (permIn_refl _ _ _) (by rw [show mid = e by omega]; exact HE2.out.2))
                      go_wp2_with fail
                      go_end0
                      exact ⟨rfl, d2, HF.out.1, HF.out.2, S3.out⟩
      · have hmm' : ¬ (mid : Int) < (m : Int) := by omega
        go_enter FG, Tryd.ntmps84
        go_upto_region 32 with (fail)
        clear hmid h1 h2 hq hq2
        go_wp2_with fail
        go_loopg [20, 21] (b - a) (fun gx ss sr wr => ∃ (s r : Nat), ss = .int .i64 s ∧ sr = .int .i64 r ∧ a ≤ s ∧ s ≤ r ∧ r ≤ m ∧ r ≤ mid ∧ mid + m ≤ b + s ∧ r - s ≤ gx ∧ Aside (SWK enc k w0 blk off d wr) ∧ Aside ((a < s → mid + m - s < b → ltOf cf d[mid + m - s]! d[s - 1]! = false) ∧ (r < m → m < mid + m - r → ltOf cf d[mid + m - r - 1]! d[r]! = true)))
        case atStart => exact ⟨a, m, rfl, rfl, by omega, by omega, by omega, by omega, by omega, by omega, S0, fun h => by omega, fun h => by omega⟩
        case round =>
          clear S0
          obtain ⟨s, r, rfl, rfl, hi, hij, hj, hj2, hbs, hg, S1, HP⟩ := hrel
          by_cases hlt : s < r
          · have hlt' : (s : Int) < (r : Int) := by omega
            obtain ⟨c, hc0, hc1, hc2, hc3⟩ : ∃ c : Nat, ((s : Int) + (r : Int)) / 2 = (c : Int) ∧ s ≤ c ∧ c < r ∧ c = (s + r) / 2 := ⟨(s + r) / 2, by omega, by omega, by omega, rfl⟩
            clear hc3
            obtain ⟨q, hq0, hq1⟩ : ∃ q : Nat, (mid : Int) + (m : Int) - 1 - (c : Int) = (q : Int) ∧ q + c + 1 = mid + m := ⟨mid + m - 1 - c, by omega, by omega⟩
            go_upto_region 35 with (fail)
            cases hT : ltOf cf d[q]! d[c]! with
            | true =>
              have ea : ((q : Int)).toNat = q := by omega
              have pa : (0 : Int) ≤ (q : Int) := by omega
              have ba : (q : Int) < (d.size : Int) := by omega
              have ra : IntKind.i64.wrap ((q : Int)) = (q : Int) := by rw [IntKind.wrap_i64]; omega
              have ec : ((c : Int)).toNat = c := by omega
              have pc : (0 : Int) ≤ (c : Int) := by omega
              have bc : (c : Int) < (d.size : Int) := by omega
              have rc : IntKind.i64.wrap ((c : Int)) = (c : Int) := by rw [IntKind.wrap_i64]; omega
              obtain ⟨xv, hxv⟩ : ∃ x, x = d[q]! := ⟨_, rfl⟩
              obtain ⟨yv, hyv⟩ : ∃ x, x = d[c]! := ⟨_, rfl⟩
              have la := S1.out.ld R (by omega) P (q) (by omega)
              have lb := S1.out.ld R (by omega) P (c) (by omega)
              rw [← hxv] at la
              rw [← hyv] at lb
              have hc := S1.out.cmp HC.out (by omega) xv yv
              have hT' := hT
              rw [← hxv, ← hyv] at hT'
              have hd : decide (cf xv yv < 0) = true := hT'
              have hv := of_decide_eq_true hd
              clear hxv hyv hT'
              have HT := Lib.hid hT
              clear hT
              go_wp2_with fail
              go_quiet_grown (first | (go_at_fn g; refine Calls.grown_of (hc _ _)))
              have S2 : Aside (SWK enc k w0 blk off d (grow (wr.drewN nq) osq)) := S1.out.grown nq osq
              have hT := HT.out
              clear la lb hc S1 ea pa ba ra ec pc bc rc hv hd HT
              generalize grow (wr.drewN nq) osq = w2 at S2 ⊢
              clear nq osq
              clear hc0 hq0
              go_wp2_with fail
              go_roundg (c - s)
              case measure => omega
              case rel => exact ⟨s, c, rfl, rfl, by omega, by omega, by omega, by omega, by omega, by omega, S2, HP.out.1, fun _ _ => by rw [show mid + m - c - 1 = q by omega]; exact hT⟩
            | false =>
              have ea : ((q : Int)).toNat = q := by omega
              have pa : (0 : Int) ≤ (q : Int) := by omega
              have ba : (q : Int) < (d.size : Int) := by omega
              have ra : IntKind.i64.wrap ((q : Int)) = (q : Int) := by rw [IntKind.wrap_i64]; omega
              have ec : ((c : Int)).toNat = c := by omega
              have pc : (0 : Int) ≤ (c : Int) := by omega
              have bc : (c : Int) < (d.size : Int) := by omega
              have rc : IntKind.i64.wrap ((c : Int)) = (c : Int) := by rw [IntKind.wrap_i64]; omega
              obtain ⟨xv, hxv⟩ : ∃ x, x = d[q]! := ⟨_, rfl⟩
              obtain ⟨yv, hyv⟩ : ∃ x, x = d[c]! := ⟨_, rfl⟩
              have la := S1.out.ld R (by omega) P (q) (by omega)
              have lb := S1.out.ld R (by omega) P (c) (by omega)
              rw [← hxv] at la
              rw [← hyv] at lb
              have hc := S1.out.cmp HC.out (by omega) xv yv
              have hT' := hT
              rw [← hxv, ← hyv] at hT'
              have hd : decide (cf xv yv < 0) = false := hT'
              have hv := of_decide_eq_false hd
              clear hxv hyv hT'
              have HT := Lib.hid hT
              clear hT
              go_wp2_with fail
              go_quiet_grown (first | (go_at_fn g; refine Calls.grown_of (hc _ _)))
              have S2 : Aside (SWK enc k w0 blk off d (grow (wr.drewN nq) osq)) := S1.out.grown nq osq
              have hT := HT.out
              clear la lb hc S1 ea pa ba ra ec pc bc rc hv hd HT
              generalize grow (wr.drewN nq) osq = w2 at S2 ⊢
              clear nq osq
              clear hc0 hq0
              go_wp2_with fail
              go_roundg (r - (c + 1))
              case measure => omega
              case rel => exact ⟨c + 1, r, by go_num, rfl, by omega, by omega, by omega, by omega, by omega, by omega, S2, fun _ _ => by rw [Nat.add_sub_cancel, show mid + m - (c + 1) = q by omega]; exact hT, HP.out.2⟩
          · have hlt' : ¬ (s : Int) < (r : Int) := by omega
            obtain rfl : s = r := by omega
            obtain ⟨e, hE, he⟩ : ∃ e : Nat, (mid : Int) + (m : Int) - (s : Int) = (e : Int) ∧ s + e = mid + m := ⟨mid + m - s, by omega, by omega⟩
            have HM : Aside (∀ d1, Rot d s m e d1 → SortedIn (ltOf cf) a s d1 ∧ SortedIn (ltOf cf) s mid d1 ∧ SortedIn (ltOf cf) mid e d1 ∧ SortedIn (ltOf cf) e b d1 ∧ ∀ i j, a ≤ i → i < mid → mid ≤ j → j < b → ltOf cf d1[j]! d1[i]! = false) := fun d1 h => merge_ready hO HHL.out.1 HHL.out.2 hi hj (by omega) (by omega) he (fun h1 h2 => by have := HP.out.1 h1 (by omega); rwa [show mid + m - s = e by omega] at this) (fun h1 h2 => by have := HP.out.2 h1 (by omega); rwa [show mid + m - s - 1 = e - 1 by omega] at this) h
            clear hlt hij hg HP
            by_cases g1 : s < m
            · by_cases g2 : m < e
              · have g1' : (s : Int) < (m : Int) := by omega
                have g2' : (m : Int) < (e : Int) := by omega
                have hcall := rotate_any L enc g cb blk off cap s m e d0 d w0 wr R (by omega) S1.out (by omega) (by omega) (by omega) (by omega)
                clear S1
                go_upto_region 41 with (go_at_fn 97; refine hcall.mono ?_; rintro e w1 ⟨rfl, d1, q1, hrot, S2⟩)
                have HP1 := permIn_mono _ _ _ _ a b (by omega) (by omega) (by omega) q1
                clear q1 hcall
                have HT := Lib.hid (HM.out d1 hrot)
                have hs1 : d1.size = d.size := HP1.1
                have S3 := Lib.hid S2
                clear hrot S2
                by_cases g3 : a < s
                · by_cases g4 : s < mid
                  · try (exfalso; omega)
                    all_goals
                      have g3' : (a : Int) < (s : Int) := by omega
                      have g4' : (s : Int) < (mid : Int) := by omega
                      have hcall := IH.out a s mid d1 _ (by omega) (by omega) S3.out g3 g4 (by omega) (by omega) HT.out.1 HT.out.2.1
                      rw [hs1] at hcall
                      have HS1 := Lib.hid hs1
                      clear S3 hs1
                      go_upto_region 43 with (go_at_fn 84; refine hcall.mono ?_; rintro e w1 ⟨rfl, d2, HP2, HQ2, S2⟩)
                      have S3 := Lib.hid S2
                      clear S2 hcall
                      have hs2 : d2.size = d.size := HP2.1.trans HS1.out
                      have HE2 := Lib.hid (show SortedIn (ltOf cf) mid e d2 ∧ SortedIn (ltOf cf) e b d2 from ⟨sorted_congr HT.out.2.2.1 fun i h1 _ => HP2.2.1 i (.inr h1), sorted_congr HT.out.2.2.2.1 fun i h1 _ => HP2.2.1 i (.inr (by omega))⟩)
                      have HFin := Lib.hid (show ∀ d3, PermIn mid b d2 d3 → SortedIn (ltOf cf) mid b d3 → PermIn a b d d3 ∧ SortedIn (ltOf cf) a b d3 from fun d3 h1 h2 => by
                        have hs1 := HS1.out
                        have := merge_done (by omega) (by omega) (by omega) HT.out.2.2.2.2 HP2 HQ2 h1 h2
                        exact ⟨permIn_trans _ _ _ _ _ HP1 this.1, this.2⟩)
                      have HS2 := Lib.hid hs2
                      clear HP2 HQ2 hs2
                      by_cases g5 : mid < e
                      · by_cases g6 : e < b
                        · try (exfalso; omega)
                          all_goals
                            have g5' : (mid : Int) < (e : Int) := by omega
                            have g6' : (e : Int) < (b : Int) := by omega
                            have hcall := IH.out mid e b d2 _ (by omega) (by rw [HS2.out]; omega) S3.out g5 g6 (by rw [HS2.out]; omega) (by rw [HS2.out]; omega) HE2.out.1 HE2.out.2
                            rw [HS2.out] at hcall
                            clear S3
                            go_wp2_with (go_at_fn 84; refine hcall.mono ?_; rintro e w1 ⟨rfl, d3, q1, q2, q3⟩)
                            go_end0
                            exact ⟨rfl, d3, (HFin.out d3 q1 q2).1, (HFin.out d3 q1 q2).2, q3⟩
                        · try (exfalso; omega)
                          all_goals
                            have g5' : (mid : Int) < (e : Int) := by omega
                            have g6' : ¬ (e : Int) < (b : Int) := by omega
                            have HF := Lib.hid (HFin.out d2 (permIn_refl _ _ _) (by rw [show b = e by omega]; exact HE2.out.1))
                            go_wp2_with fail
                            go_end0
                            exact ⟨rfl, d2, HF.out.1, HF.out.2, S3.out⟩
                      · try (exfalso; omega)
                        all_goals
                          have g5' : ¬ (mid : Int) < (e : Int) := by omega
                          have HF := Lib.hid (HFin.out d2 (permIn_refl _ _ _) (by rw [show mid = e by omega]; exact HE2.out.2))
                          go_wp2_with fail
                          go_end0
                          exact ⟨rfl, d2, HF.out.1, HF.out.2, S3.out⟩
                  · try (exfalso; omega)
                    all_goals
                      have g3' : (a : Int) < (s : Int) := by omega
                      have g4' : ¬ (s : Int) < (mid : Int) := by omega
                      have HP2 := permIn_refl d1 a mid
                      have HQ2 : SortedIn (ltOf cf) a mid d1 := by rw [show mid = s by omega]; exact HT.out.1
                      have HS1 := Lib.hid hs1
                      clear hs1
                      obtain ⟨d2, hd2⟩ : ∃ d2, d2 = d1 := ⟨_, rfl⟩
                      rw [show PermIn a mid d1 d1 = PermIn a mid d1 d2 by rw [hd2]] at HP2
                      rw [← hd2] at S3 HQ2
                      clear hd2
                      go_upto_region 43 with (fail)
                      have hs2 : d2.size = d.size := HP2.1.trans HS1.out
                      have HE2 := Lib.hid (show SortedIn (ltOf cf) mid e d2 ∧ SortedIn (ltOf cf) e b d2 from ⟨sorted_congr HT.out.2.2.1 fun i h1 _ => HP2.2.1 i (.inr h1), sorted_congr HT.out.2.2.2.1 fun i h1 _ => HP2.2.1 i (.inr (by omega))⟩)
                      have HFin := Lib.hid (show ∀ d3, PermIn mid b d2 d3 → SortedIn (ltOf cf) mid b d3 → PermIn a b d d3 ∧ SortedIn (ltOf cf) a b d3 from fun d3 h1 h2 => by
                        have hs1 := HS1.out
                        have := merge_done (by omega) (by omega) (by omega) HT.out.2.2.2.2 HP2 HQ2 h1 h2
                        exact ⟨permIn_trans _ _ _ _ _ HP1 this.1, this.2⟩)
                      have HS2 := Lib.hid hs2
                      clear HP2 HQ2 hs2
                      by_cases g5 : mid < e
                      · by_cases g6 : e < b
                        · try (exfalso; omega)
                          all_goals
                            have g5' : (mid : Int) < (e : Int) := by omega
                            have g6' : (e : Int) < (b : Int) := by omega
                            have hcall := IH.out mid e b d2 _ (by omega) (by rw [HS2.out]; omega) S3.out g5 g6 (by rw [HS2.out]; omega) (by rw [HS2.out]; omega) HE2.out.1 HE2.out.2
                            rw [HS2.out] at hcall
                            clear S3
                            go_wp2_with (go_at_fn 84; refine hcall.mono ?_; rintro e w1 ⟨rfl, d3, q1, q2, q3⟩)
                            go_end0
                            exact ⟨rfl, d3, (HFin.out d3 q1 q2).1, (HFin.out d3 q1 q2).2, q3⟩
                        · try (exfalso; omega)
                          all_goals
                            have g5' : (mid : Int) < (e : Int) := by omega
                            have g6' : ¬ (e : Int) < (b : Int) := by omega
                            have HF := Lib.hid (HFin.out d2 (permIn_refl _ _ _) (by rw [show b = e by omega]; exact HE2.out.1))
                            go_wp2_with fail
                            go_end0
                            exact ⟨rfl, d2, HF.out.1, HF.out.2, S3.out⟩
                      · try (exfalso; omega)
                        all_goals
                          have g5' : ¬ (mid : Int) < (e : Int) := by omega
                          have HF := Lib.hid (HFin.out d2 (permIn_refl _ _ _) (by rw [show mid = e by omega]; exact HE2.out.2))
                          go_wp2_with fail
                          go_end0
                          exact ⟨rfl, d2, HF.out.1, HF.out.2, S3.out⟩
                · try (exfalso; omega)
                  all_goals
                    have g3' : ¬ (a : Int) < (s : Int) := by omega
                    have HP2 := permIn_refl d1 a mid
                    have HQ2 : SortedIn (ltOf cf) a mid d1 := by rw [show a = s by omega]; exact HT.out.2.1
                    have HS1 := Lib.hid hs1
                    clear hs1
                    obtain ⟨d2, hd2⟩ : ∃ d2, d2 = d1 := ⟨_, rfl⟩
                    rw [show PermIn a mid d1 d1 = PermIn a mid d1 d2 by rw [hd2]] at HP2
                    rw [← hd2] at S3 HQ2
                    clear hd2
                    go_upto_region 43 with (fail)
                    have hs2 : d2.size = d.size := HP2.1.trans HS1.out
                    have HE2 := Lib.hid (show SortedIn (ltOf cf) mid e d2 ∧ SortedIn (ltOf cf) e b d2 from ⟨sorted_congr HT.out.2.2.1 fun i h1 _ => HP2.2.1 i (.inr h1), sorted_congr HT.out.2.2.2.1 fun i h1 _ => HP2.2.1 i (.inr (by omega))⟩)
                    have HFin := Lib.hid (show ∀ d3, PermIn mid b d2 d3 → SortedIn (ltOf cf) mid b d3 → PermIn a b d d3 ∧ SortedIn (ltOf cf) a b d3 from fun d3 h1 h2 => by
                      have hs1 := HS1.out
                      have := merge_done (by omega) (by omega) (by omega) HT.out.2.2.2.2 HP2 HQ2 h1 h2
                      exact ⟨permIn_trans _ _ _ _ _ HP1 this.1, this.2⟩)
                    have HS2 := Lib.hid hs2
                    clear HP2 HQ2 hs2
                    by_cases g5 : mid < e
                    · by_cases g6 : e < b
                      · try (exfalso; omega)
                        all_goals
                          have g5' : (mid : Int) < (e : Int) := by omega
                          have g6' : (e : Int) < (b : Int) := by omega
                          have hcall := IH.out mid e b d2 _ (by omega) (by rw [HS2.out]; omega) S3.out g5 g6 (by rw [HS2.out]; omega) (by rw [HS2.out]; omega) HE2.out.1 HE2.out.2
                          rw [HS2.out] at hcall
                          clear S3
                          go_wp2_with (go_at_fn 84; refine hcall.mono ?_; rintro e w1 ⟨rfl, d3, q1, q2, q3⟩)
                          go_end0
                          exact ⟨rfl, d3, (HFin.out d3 q1 q2).1, (HFin.out d3 q1 q2).2, q3⟩
                      · try (exfalso; omega)
                        all_goals
                          have g5' : (mid : Int) < (e : Int) := by omega
                          have g6' : ¬ (e : Int) < (b : Int) := by omega
                          have HF := Lib.hid (HFin.out d2 (permIn_refl _ _ _) (by rw [show b = e by omega]; exact HE2.out.1))
                          go_wp2_with fail
                          go_end0
                          exact ⟨rfl, d2, HF.out.1, HF.out.2, S3.out⟩
                    · try (exfalso; omega)
                      all_goals
                        have g5' : ¬ (mid : Int) < (e : Int) := by omega
                        have HF := Lib.hid (HFin.out d2 (permIn_refl _ _ _) (by rw [show mid = e by omega]; exact HE2.out.2))
                        go_wp2_with fail
                        go_end0
                        exact ⟨rfl, d2, HF.out.1, HF.out.2, S3.out⟩
              · have g1' : (s : Int) < (m : Int) := by omega
                have g2' : ¬ (m : Int) < (e : Int) := by omega
                have hrot := rot_self (d := d) (x := s) (m := m) (y := e) (by omega) (by omega) (.inr (by omega))
                have HP1 := permIn_refl d a b
                have S2 := S1.out
                clear S1
                obtain ⟨d1, hd1⟩ : ∃ d1, d1 = d := ⟨_, rfl⟩
                rw [show Rot d s m e d = Rot d s m e d1 by rw [hd1]] at hrot
                rw [show PermIn a b d d = PermIn a b d d1 by rw [hd1]] at HP1
                rw [← hd1] at S2
                clear hd1
                go_upto_region 41 with (fail)
                have HT := Lib.hid (HM.out d1 hrot)
                have hs1 : d1.size = d.size := HP1.1
                have S3 := Lib.hid S2
                clear hrot S2
                by_cases g3 : a < s
                · by_cases g4 : s < mid
                  · try (exfalso; omega)
                    all_goals
                      have g3' : (a : Int) < (s : Int) := by omega
                      have g4' : (s : Int) < (mid : Int) := by omega
                      have hcall := IH.out a s mid d1 _ (by omega) (by omega) S3.out g3 g4 (by omega) (by omega) HT.out.1 HT.out.2.1
                      rw [hs1] at hcall
                      have HS1 := Lib.hid hs1
                      clear S3 hs1
                      go_upto_region 43 with (go_at_fn 84; refine hcall.mono ?_; rintro e w1 ⟨rfl, d2, HP2, HQ2, S2⟩)
                      have S3 := Lib.hid S2
                      clear S2 hcall
                      have hs2 : d2.size = d.size := HP2.1.trans HS1.out
                      have HE2 := Lib.hid (show SortedIn (ltOf cf) mid e d2 ∧ SortedIn (ltOf cf) e b d2 from ⟨sorted_congr HT.out.2.2.1 fun i h1 _ => HP2.2.1 i (.inr h1), sorted_congr HT.out.2.2.2.1 fun i h1 _ => HP2.2.1 i (.inr (by omega))⟩)
                      have HFin := Lib.hid (show ∀ d3, PermIn mid b d2 d3 → SortedIn (ltOf cf) mid b d3 → PermIn a b d d3 ∧ SortedIn (ltOf cf) a b d3 from fun d3 h1 h2 => by
                        have hs1 := HS1.out
                        have := merge_done (by omega) (by omega) (by omega) HT.out.2.2.2.2 HP2 HQ2 h1 h2
                        exact ⟨permIn_trans _ _ _ _ _ HP1 this.1, this.2⟩)
                      have HS2 := Lib.hid hs2
                      clear HP2 HQ2 hs2
                      by_cases g5 : mid < e
                      · by_cases g6 : e < b
                        · try (exfalso; omega)
                          all_goals
                            have g5' : (mid : Int) < (e : Int) := by omega
                            have g6' : (e : Int) < (b : Int) := by omega
                            have hcall := IH.out mid e b d2 _ (by omega) (by rw [HS2.out]; omega) S3.out g5 g6 (by rw [HS2.out]; omega) (by rw [HS2.out]; omega) HE2.out.1 HE2.out.2
                            rw [HS2.out] at hcall
                            clear S3
                            go_wp2_with (go_at_fn 84; refine hcall.mono ?_; rintro e w1 ⟨rfl, d3, q1, q2, q3⟩)
                            go_end0
                            exact ⟨rfl, d3, (HFin.out d3 q1 q2).1, (HFin.out d3 q1 q2).2, q3⟩
                        · try (exfalso; omega)
                          all_goals
                            have g5' : (mid : Int) < (e : Int) := by omega
                            have g6' : ¬ (e : Int) < (b : Int) := by omega
                            have HF := Lib.hid (HFin.out d2 (permIn_refl _ _ _) (by rw [show b = e by omega]; exact HE2.out.1))
                            go_wp2_with fail
                            go_end0
                            exact ⟨rfl, d2, HF.out.1, HF.out.2, S3.out⟩
                      · try (exfalso; omega)
                        all_goals
                          have g5' : ¬ (mid : Int) < (e : Int) := by omega
                          have HF := Lib.hid (HFin.out d2 (permIn_refl _ _ _) (by rw [show mid = e by omega]; exact HE2.out.2))
                          go_wp2_with fail
                          go_end0
                          exact ⟨rfl, d2, HF.out.1, HF.out.2, S3.out⟩
                  · try (exfalso; omega)
                    all_goals
                      have g3' : (a : Int) < (s : Int) := by omega
                      have g4' : ¬ (s : Int) < (mid : Int) := by omega
                      have HP2 := permIn_refl d1 a mid
                      have HQ2 : SortedIn (ltOf cf) a mid d1 := by rw [show mid = s by omega]; exact HT.out.1
                      have HS1 := Lib.hid hs1
                      clear hs1
                      obtain ⟨d2, hd2⟩ : ∃ d2, d2 = d1 := ⟨_, rfl⟩
                      rw [show PermIn a mid d1 d1 = PermIn a mid d1 d2 by rw [hd2]] at HP2
                      rw [← hd2] at S3 HQ2
                      clear hd2
                      go_upto_region 43 with (fail)
                      have hs2 : d2.size = d.size := HP2.1.trans HS1.out
                      have HE2 := Lib.hid (show SortedIn (ltOf cf) mid e d2 ∧ SortedIn (ltOf cf) e b d2 from ⟨sorted_congr HT.out.2.2.1 fun i h1 _ => HP2.2.1 i (.inr h1), sorted_congr HT.out.2.2.2.1 fun i h1 _ => HP2.2.1 i (.inr (by omega))⟩)
                      have HFin := Lib.hid (show ∀ d3, PermIn mid b d2 d3 → SortedIn (ltOf cf) mid b d3 → PermIn a b d d3 ∧ SortedIn (ltOf cf) a b d3 from fun d3 h1 h2 => by
                        have hs1 := HS1.out
                        have := merge_done (by omega) (by omega) (by omega) HT.out.2.2.2.2 HP2 HQ2 h1 h2
                        exact ⟨permIn_trans _ _ _ _ _ HP1 this.1, this.2⟩)
                      have HS2 := Lib.hid hs2
                      clear HP2 HQ2 hs2
                      by_cases g5 : mid < e
                      · by_cases g6 : e < b
                        · try (exfalso; omega)
                          all_goals
                            have g5' : (mid : Int) < (e : Int) := by omega
                            have g6' : (e : Int) < (b : Int) := by omega
                            have hcall := IH.out mid e b d2 _ (by omega) (by rw [HS2.out]; omega) S3.out g5 g6 (by rw [HS2.out]; omega) (by rw [HS2.out]; omega) HE2.out.1 HE2.out.2
                            rw [HS2.out] at hcall
                            clear S3
                            go_wp2_with (go_at_fn 84; refine hcall.mono ?_; rintro e w1 ⟨rfl, d3, q1, q2, q3⟩)
                            go_end0
                            exact ⟨rfl, d3, (HFin.out d3 q1 q2).1, (HFin.out d3 q1 q2).2, q3⟩
                        · try (exfalso; omega)
                          all_goals
                            have g5' : (mid : Int) < (e : Int) := by omega
                            have g6' : ¬ (e : Int) < (b : Int) := by omega
                            have HF := Lib.hid (HFin.out d2 (permIn_refl _ _ _) (by rw [show b = e by omega]; exact HE2.out.1))
                            go_wp2_with fail
                            go_end0
                            exact ⟨rfl, d2, HF.out.1, HF.out.2, S3.out⟩
                      · try (exfalso; omega)
                        all_goals
                          have g5' : ¬ (mid : Int) < (e : Int) := by omega
                          have HF := Lib.hid (HFin.out d2 (permIn_refl _ _ _) (by rw [show mid = e by omega]; exact HE2.out.2))
                          go_wp2_with fail
                          go_end0
                          exact ⟨rfl, d2, HF.out.1, HF.out.2, S3.out⟩
                · try (exfalso; omega)
                  all_goals
                    have g3' : ¬ (a : Int) < (s : Int) := by omega
                    have HP2 := permIn_refl d1 a mid
                    have HQ2 : SortedIn (ltOf cf) a mid d1 := by rw [show a = s by omega]; exact HT.out.2.1
                    have HS1 := Lib.hid hs1
                    clear hs1
                    obtain ⟨d2, hd2⟩ : ∃ d2, d2 = d1 := ⟨_, rfl⟩
                    rw [show PermIn a mid d1 d1 = PermIn a mid d1 d2 by rw [hd2]] at HP2
                    rw [← hd2] at S3 HQ2
                    clear hd2
                    go_upto_region 43 with (fail)
                    have hs2 : d2.size = d.size := HP2.1.trans HS1.out
                    have HE2 := Lib.hid (show SortedIn (ltOf cf) mid e d2 ∧ SortedIn (ltOf cf) e b d2 from ⟨sorted_congr HT.out.2.2.1 fun i h1 _ => HP2.2.1 i (.inr h1), sorted_congr HT.out.2.2.2.1 fun i h1 _ => HP2.2.1 i (.inr (by omega))⟩)
                    have HFin := Lib.hid (show ∀ d3, PermIn mid b d2 d3 → SortedIn (ltOf cf) mid b d3 → PermIn a b d d3 ∧ SortedIn (ltOf cf) a b d3 from fun d3 h1 h2 => by
                      have hs1 := HS1.out
                      have := merge_done (by omega) (by omega) (by omega) HT.out.2.2.2.2 HP2 HQ2 h1 h2
                      exact ⟨permIn_trans _ _ _ _ _ HP1 this.1, this.2⟩)
                    have HS2 := Lib.hid hs2
                    clear HP2 HQ2 hs2
                    by_cases g5 : mid < e
                    · by_cases g6 : e < b
                      · try (exfalso; omega)
                        all_goals
                          have g5' : (mid : Int) < (e : Int) := by omega
                          have g6' : (e : Int) < (b : Int) := by omega
                          have hcall := IH.out mid e b d2 _ (by omega) (by rw [HS2.out]; omega) S3.out g5 g6 (by rw [HS2.out]; omega) (by rw [HS2.out]; omega) HE2.out.1 HE2.out.2
                          rw [HS2.out] at hcall
                          clear S3
                          go_wp2_with (go_at_fn 84; refine hcall.mono ?_; rintro e w1 ⟨rfl, d3, q1, q2, q3⟩)
                          go_end0
                          exact ⟨rfl, d3, (HFin.out d3 q1 q2).1, (HFin.out d3 q1 q2).2, q3⟩
                      · try (exfalso; omega)
                        all_goals
                          have g5' : (mid : Int) < (e : Int) := by omega
                          have g6' : ¬ (e : Int) < (b : Int) := by omega
                          have HF := Lib.hid (HFin.out d2 (permIn_refl _ _ _) (by rw [show b = e by omega]; exact HE2.out.1))
                          go_wp2_with fail
                          go_end0
                          exact ⟨rfl, d2, HF.out.1, HF.out.2, S3.out⟩
                    · try (exfalso; omega)
                      all_goals
                        have g5' : ¬ (mid : Int) < (e : Int) := by omega
                        have HF := Lib.hid (HFin.out d2 (permIn_refl _ _ _) (by rw [show mid = e by omega]; exact HE2.out.2))
                        go_wp2_with fail
                        go_end0
                        exact ⟨rfl, d2, HF.out.1, HF.out.2, S3.out⟩
            · have g1' : ¬ (s : Int) < (m : Int) := by omega
              have hrot := rot_self (d := d) (x := s) (m := m) (y := e) (by omega) (by omega) (.inl (by omega))
              have HP1 := permIn_refl d a b
              have S2 := S1.out
              clear S1
              obtain ⟨d1, hd1⟩ : ∃ d1, d1 = d := ⟨_, rfl⟩
              rw [show Rot d s m e d = Rot d s m e d1 by rw [hd1]] at hrot
              rw [show PermIn a b d d = PermIn a b d d1 by rw [hd1]] at HP1
              rw [← hd1] at S2
              clear hd1
              go_upto_region 41 with (fail)
              have HT := Lib.hid (HM.out d1 hrot)
              have hs1 : d1.size = d.size := HP1.1
              have S3 := Lib.hid S2
              clear hrot S2
              by_cases g3 : a < s
              · by_cases g4 : s < mid
                · try (exfalso; omega)
                  all_goals
                    have g3' : (a : Int) < (s : Int) := by omega
                    have g4' : (s : Int) < (mid : Int) := by omega
                    have hcall := IH.out a s mid d1 _ (by omega) (by omega) S3.out g3 g4 (by omega) (by omega) HT.out.1 HT.out.2.1
                    rw [hs1] at hcall
                    have HS1 := Lib.hid hs1
                    clear S3 hs1
                    go_upto_region 43 with (go_at_fn 84; refine hcall.mono ?_; rintro e w1 ⟨rfl, d2, HP2, HQ2, S2⟩)
                    have S3 := Lib.hid S2
                    clear S2 hcall
                    have hs2 : d2.size = d.size := HP2.1.trans HS1.out
                    have HE2 := Lib.hid (show SortedIn (ltOf cf) mid e d2 ∧ SortedIn (ltOf cf) e b d2 from ⟨sorted_congr HT.out.2.2.1 fun i h1 _ => HP2.2.1 i (.inr h1), sorted_congr HT.out.2.2.2.1 fun i h1 _ => HP2.2.1 i (.inr (by omega))⟩)
                    have HFin := Lib.hid (show ∀ d3, PermIn mid b d2 d3 → SortedIn (ltOf cf) mid b d3 → PermIn a b d d3 ∧ SortedIn (ltOf cf) a b d3 from fun d3 h1 h2 => by
                      have hs1 := HS1.out
                      have := merge_done (by omega) (by omega) (by omega) HT.out.2.2.2.2 HP2 HQ2 h1 h2
                      exact ⟨permIn_trans _ _ _ _ _ HP1 this.1, this.2⟩)
                    have HS2 := Lib.hid hs2
                    clear HP2 HQ2 hs2
                    by_cases g5 : mid < e
                    · by_cases g6 : e < b
                      · try (exfalso; omega)
                        all_goals
                          have g5' : (mid : Int) < (e : Int) := by omega
                          have g6' : (e : Int) < (b : Int) := by omega
                          have hcall := IH.out mid e b d2 _ (by omega) (by rw [HS2.out]; omega) S3.out g5 g6 (by rw [HS2.out]; omega) (by rw [HS2.out]; omega) HE2.out.1 HE2.out.2
                          rw [HS2.out] at hcall
                          clear S3
                          go_wp2_with (go_at_fn 84; refine hcall.mono ?_; rintro e w1 ⟨rfl, d3, q1, q2, q3⟩)
                          go_end0
                          exact ⟨rfl, d3, (HFin.out d3 q1 q2).1, (HFin.out d3 q1 q2).2, q3⟩
                      · try (exfalso; omega)
                        all_goals
                          have g5' : (mid : Int) < (e : Int) := by omega
                          have g6' : ¬ (e : Int) < (b : Int) := by omega
                          have HF := Lib.hid (HFin.out d2 (permIn_refl _ _ _) (by rw [show b = e by omega]; exact HE2.out.1))
                          go_wp2_with fail
                          go_end0
                          exact ⟨rfl, d2, HF.out.1, HF.out.2, S3.out⟩
                    · try (exfalso; omega)
                      all_goals
                        have g5' : ¬ (mid : Int) < (e : Int) := by omega
                        have HF := Lib.hid (HFin.out d2 (permIn_refl _ _ _) (by rw [show mid = e by omega]; exact HE2.out.2))
                        go_wp2_with fail
                        go_end0
                        exact ⟨rfl, d2, HF.out.1, HF.out.2, S3.out⟩
                · try (exfalso; omega)
                  all_goals
                    have g3' : (a : Int) < (s : Int) := by omega
                    have g4' : ¬ (s : Int) < (mid : Int) := by omega
                    have HP2 := permIn_refl d1 a mid
                    have HQ2 : SortedIn (ltOf cf) a mid d1 := by rw [show mid = s by omega]; exact HT.out.1
                    have HS1 := Lib.hid hs1
                    clear hs1
                    obtain ⟨d2, hd2⟩ : ∃ d2, d2 = d1 := ⟨_, rfl⟩
                    rw [show PermIn a mid d1 d1 = PermIn a mid d1 d2 by rw [hd2]] at HP2
                    rw [← hd2] at S3 HQ2
                    clear hd2
                    go_upto_region 43 with (fail)
                    have hs2 : d2.size = d.size := HP2.1.trans HS1.out
                    have HE2 := Lib.hid (show SortedIn (ltOf cf) mid e d2 ∧ SortedIn (ltOf cf) e b d2 from ⟨sorted_congr HT.out.2.2.1 fun i h1 _ => HP2.2.1 i (.inr h1), sorted_congr HT.out.2.2.2.1 fun i h1 _ => HP2.2.1 i (.inr (by omega))⟩)
                    have HFin := Lib.hid (show ∀ d3, PermIn mid b d2 d3 → SortedIn (ltOf cf) mid b d3 → PermIn a b d d3 ∧ SortedIn (ltOf cf) a b d3 from fun d3 h1 h2 => by
                      have hs1 := HS1.out
                      have := merge_done (by omega) (by omega) (by omega) HT.out.2.2.2.2 HP2 HQ2 h1 h2
                      exact ⟨permIn_trans _ _ _ _ _ HP1 this.1, this.2⟩)
                    have HS2 := Lib.hid hs2
                    clear HP2 HQ2 hs2
                    by_cases g5 : mid < e
                    · by_cases g6 : e < b
                      · try (exfalso; omega)
                        all_goals
                          have g5' : (mid : Int) < (e : Int) := by omega
                          have g6' : (e : Int) < (b : Int) := by omega
                          have hcall := IH.out mid e b d2 _ (by omega) (by rw [HS2.out]; omega) S3.out g5 g6 (by rw [HS2.out]; omega) (by rw [HS2.out]; omega) HE2.out.1 HE2.out.2
                          rw [HS2.out] at hcall
                          clear S3
                          go_wp2_with (go_at_fn 84; refine hcall.mono ?_; rintro e w1 ⟨rfl, d3, q1, q2, q3⟩)
                          go_end0
                          exact ⟨rfl, d3, (HFin.out d3 q1 q2).1, (HFin.out d3 q1 q2).2, q3⟩
                      · try (exfalso; omega)
                        all_goals
                          have g5' : (mid : Int) < (e : Int) := by omega
                          have g6' : ¬ (e : Int) < (b : Int) := by omega
                          have HF := Lib.hid (HFin.out d2 (permIn_refl _ _ _) (by rw [show b = e by omega]; exact HE2.out.1))
                          go_wp2_with fail
                          go_end0
                          exact ⟨rfl, d2, HF.out.1, HF.out.2, S3.out⟩
                    · try (exfalso; omega)
                      all_goals
                        have g5' : ¬ (mid : Int) < (e : Int) := by omega
                        have HF := Lib.hid (HFin.out d2 (permIn_refl _ _ _) (by rw [show mid = e by omega]; exact HE2.out.2))
                        go_wp2_with fail
                        go_end0
                        exact ⟨rfl, d2, HF.out.1, HF.out.2, S3.out⟩
              · try (exfalso; omega)
                all_goals
                  have g3' : ¬ (a : Int) < (s : Int) := by omega
                  have HP2 := permIn_refl d1 a mid
                  have HQ2 : SortedIn (ltOf cf) a mid d1 := by rw [show a = s by omega]; exact HT.out.2.1
                  have HS1 := Lib.hid hs1
                  clear hs1
                  obtain ⟨d2, hd2⟩ : ∃ d2, d2 = d1 := ⟨_, rfl⟩
                  rw [show PermIn a mid d1 d1 = PermIn a mid d1 d2 by rw [hd2]] at HP2
                  rw [← hd2] at S3 HQ2
                  clear hd2
                  go_upto_region 43 with (fail)
                  have hs2 : d2.size = d.size := HP2.1.trans HS1.out
                  have HE2 := Lib.hid (show SortedIn (ltOf cf) mid e d2 ∧ SortedIn (ltOf cf) e b d2 from ⟨sorted_congr HT.out.2.2.1 fun i h1 _ => HP2.2.1 i (.inr h1), sorted_congr HT.out.2.2.2.1 fun i h1 _ => HP2.2.1 i (.inr (by omega))⟩)
                  have HFin := Lib.hid (show ∀ d3, PermIn mid b d2 d3 → SortedIn (ltOf cf) mid b d3 → PermIn a b d d3 ∧ SortedIn (ltOf cf) a b d3 from fun d3 h1 h2 => by
                    have hs1 := HS1.out
                    have := merge_done (by omega) (by omega) (by omega) HT.out.2.2.2.2 HP2 HQ2 h1 h2
                    exact ⟨permIn_trans _ _ _ _ _ HP1 this.1, this.2⟩)
                  have HS2 := Lib.hid hs2
                  clear HP2 HQ2 hs2
                  by_cases g5 : mid < e
                  · by_cases g6 : e < b
                    · try (exfalso; omega)
                      all_goals
                        have g5' : (mid : Int) < (e : Int) := by omega
                        have g6' : (e : Int) < (b : Int) := by omega
                        have hcall := IH.out mid e b d2 _ (by omega) (by rw [HS2.out]; omega) S3.out g5 g6 (by rw [HS2.out]; omega) (by rw [HS2.out]; omega) HE2.out.1 HE2.out.2
                        rw [HS2.out] at hcall
                        clear S3
                        go_wp2_with (go_at_fn 84; refine hcall.mono ?_; rintro e w1 ⟨rfl, d3, q1, q2, q3⟩)
                        go_end0
                        exact ⟨rfl, d3, (HFin.out d3 q1 q2).1, (HFin.out d3 q1 q2).2, q3⟩
                    · try (exfalso; omega)
                      all_goals
                        have g5' : (mid : Int) < (e : Int) := by omega
                        have g6' : ¬ (e : Int) < (b : Int) := by omega
                        have HF := Lib.hid (HFin.out d2 (permIn_refl _ _ _) (by rw [show b = e by omega]; exact HE2.out.1))
                        go_wp2_with fail
                        go_end0
                        exact ⟨rfl, d2, HF.out.1, HF.out.2, S3.out⟩
                  · try (exfalso; omega)
                    all_goals
                      have g5' : ¬ (mid : Int) < (e : Int) := by omega
                      have HF := Lib.hid (HFin.out d2 (permIn_refl _ _ _) (by rw [show mid = e by omega]; exact HE2.out.2))
                      go_wp2_with fail
                      go_end0
                      exact ⟨rfl, d2, HF.out.1, HF.out.2, S3.out⟩
end
end Go.Proofs.YtbjhemglecllmaaDoor
/-
  slices.SortStableFunc at structs of k cells: the walks of stable and SortStableFunc.
-/
namespace Go.Proofs.YtbjhemglecllmaaDoor
open Go.RowKit Go.Lib Go.Sort Go.Tw.Stab
section
variable {P : Program} {α : Type} [Inhabited α]
/-- what is asked of the insertion sort -/
def InsOk (P : Program) (enc : α → List Value) (k : Nat) (cf : α → α → Int) (g : Nat) (cb : Array Value) (blk off cap n : Nat) (w0 : World) : Prop :=
  ∀ (a b : Nat) (d : Array α) (w : World), d.size = n → SWK enc k w0 blk off d w → a ≤ b → b ≤ n →
    Calls P 83 #[.slice (some ⟨blk, off, none⟩) n cap, .int .i64 a, .int .i64 b, .func (.func g) #[] cb] w fun e w' => e = .returned (.tuple #[]) ∧ ∃ d', PermIn a b d d' ∧ SortedIn (ltOf cf) a b d' ∧ SWK enc k w0 blk off d' w'
set_option maxHeartbeats 4000000 in
set_option maxRecDepth 1000000 in
theorem stable_any {k : Nat} (L : StabL P k) (enc : α → List Value) (cf : α → α → Int) (hO : SWO (ltOf cf)) (g : Nat) (cb : Array Value) (blk off cap : Nat) (d : Array α) (w : World)
    (eg : ∀ args w, (callFunc g args).run P w = .ok (.enter g args) w) (hcmp : CmpLays P g cb enc k cf blk off d.size w) (R : RowK enc k w blk off d) (hI : InsOk P enc k cf g cb blk off cap d.size w) (h60 : d.size < 60) :
    Calls P 72 #[.slice (some ⟨blk, off, none⟩) d.size cap, .int .i64 d.size, .func (.func g) #[] cb] w fun e w' =>
      e = .returned (.tuple #[]) ∧ ∃ d', PermIn 0 d.size d d' ∧ SortedIn (ltOf cf) 0 d.size d' ∧ SWK enc k w blk off d' w' := by
  have mixed := L.mixed
  have ti := L.ti
  have ai := L.ai
  have zi := L.zi
  have vi := L.vi
  have tu := L.tu
  have au := L.au
  have zu := L.zu
  have tb := L.tb
  have ab := L.ab
  have zb := L.zb
  have vb := L.vb
  have ts := L.ts
  have asl := L.asl
  have zs := L.zs
  have vs := L.vs
  have af := L.af
  have zf := L.zf
  have aE := L.aE
  have zE := L.zE
  have FG := L.fSt
  have e77 := L.eSM
  have e76 := L.eIn
  have S0 : Aside (SWK enc k w blk off d w) := SWK.start R.hH
  have HI : Aside _ := hI
  have HS : Aside _ := symMerge_any L enc cf hO g cb blk off cap d w eg hcmp R
  clear hcmp hI
  obtain ⟨n, hn⟩ : ∃ n, d.size = n := ⟨_, rfl⟩
  rw [hn] at h60 HI ⊢
  have HN := Lib.hid hn
  clear hn
  go_enter FG, Tryd.ntmps72
  go_wp2
  go_loopg [7, 8] 4 (fun gx sa sb wr => ∃ (x : Nat) (dk : Array α), sa = .int .i64 ((x : Int) * 20) ∧ sb = .int .i64 ((x : Int) * 20 + 20) ∧ x + gx = 4 ∧ x * 20 ≤ n ∧ dk.size = n ∧ Aside (SWK enc k w blk off dk wr) ∧ Aside (PermIn 0 n d dk ∧ ∀ y, y < x → SortedIn (ltOf cf) (y * 20) (y * 20 + 20) dk))
  case atStart => exact ⟨0, d, rfl, rfl, rfl, by omega, HN.out, S0, permIn_refl _ _ _, fun y h => by omega⟩
  case round =>
    clear S0
    obtain ⟨x, dk, rfl, rfl, hx, hxn, hds, S1, HP⟩ := hrel
    by_cases hlt : x * 20 + 20 ≤ n
    · have hlt' : ((x : Int) * 20 + 20) ≤ (n : Int) := by omega
      have hcall := HI.out (x * 20) (x * 20 + 20) dk wr hds S1.out (by omega) hlt
      simp only [Int.natCast_mul, Int.natCast_add, Int.cast_ofNat_Int] at hcall
      clear S1
      go_wp2_with (go_at_fn 83; refine hcall.mono ?_; rintro e w1 ⟨rfl, d1, q1, q2, q3⟩)
      go_roundg (4 - (x + 1))
      case measure => omega
      case rel => exact ⟨x + 1, d1, by go_num, by go_num, by omega, by omega, q1.1.trans hds, q3, permIn_trans _ _ _ _ _ HP.out.1 (permIn_mono _ _ _ _ 0 n (by omega) (by omega) (by omega) q1), fun y hy => by
        by_cases e : y = x
        · subst e; exact q2
        · exact sorted_congr (HP.out.2 y (by omega)) fun i h1 h2 => q1.2.1 i (.inl (by omega))⟩
    · have hlt' : ¬ ((x : Int) * 20 + 20) ≤ (n : Int) := by omega
      have hcall := HI.out (x * 20) n dk wr hds S1.out hxn (Nat.le_refl _)
      simp only [Int.natCast_mul, Int.cast_ofNat_Int] at hcall
      clear S1
      go_wp2_with (go_at_fn 83; refine hcall.mono ?_; rintro e w1 ⟨rfl, d1, q1, q2, q3⟩)
      have HA : Aside (PermIn 0 n d d1) := permIn_trans _ _ _ _ _ HP.out.1 (permIn_mono _ _ _ _ 0 n (by omega) (by omega) (by omega) q1)
      have HB : Aside (SortedIn (ltOf cf) 0 (min 20 n) d1 ∧ SortedIn (ltOf cf) 20 (min 40 n) d1 ∧ SortedIn (ltOf cf) 40 n d1) := by
        have hx3 : x = 0 ∨ x = 1 ∨ x = 2 := by omega
        have h0 : 0 < x → SortedIn (ltOf cf) 0 20 d1 := fun h => sorted_congr (HP.out.2 0 h) fun i h1 h2 => q1.2.1 i (.inl (by omega))
        have h1 : 1 < x → SortedIn (ltOf cf) 20 40 d1 := fun h => sorted_congr (HP.out.2 1 h) fun i h1 h2 => q1.2.1 i (.inl (by omega))
        rcases hx3 with rfl | rfl | rfl
        · exact ⟨sorted_sub q2 (by omega) (by omega), fun i j _ _ _ => by omega, fun i j _ _ _ => by omega⟩
        · exact ⟨sorted_sub (h0 (by omega)) (by omega) (by omega), sorted_sub q2 (by omega) (by omega), fun i j _ _ _ => by omega⟩
        · exact ⟨sorted_sub (h0 (by omega)) (by omega) (by omega), sorted_sub (h1 (by omega)) (by omega) (by omega), q2⟩
      have hd1 : d1.size = n := q1.1.trans hds
      have S1 : Aside (SWK enc k w blk off d1 w1) := q3
      clear q1 q2 q3 HP hcall hlt hlt' hx hxn hds
      go_loopg [6, 7, 8, 9] 2 (fun gx sc _ _ _ wx => ∃ (bs : Nat) (dk : Array α), sc = .int .i64 bs ∧ dk.size = n ∧ Aside (SWK enc k w blk off dk wx) ∧ Aside (PermIn 0 n d dk) ∧ Aside ((gx = 2 ∧ bs = 20 ∧ SortedIn (ltOf cf) 0 (min 20 n) dk ∧ SortedIn (ltOf cf) 20 (min 40 n) dk ∧ SortedIn (ltOf cf) 40 n dk) ∨ (gx = 1 ∧ bs = 40 ∧ SortedIn (ltOf cf) 0 (min 40 n) dk ∧ SortedIn (ltOf cf) 40 n dk) ∨ (bs = 80 ∧ SortedIn (ltOf cf) 0 n dk)))
      case atStart => exact ⟨20, d1, rfl, hd1, S1, HA, .inl ⟨rfl, rfl, HB.out⟩⟩
      case round =>
        clear S1 HA HB hd1
        obtain ⟨bs, dk, rfl, hds, S1, HA, HB⟩ := hrel
        by_cases hlt : bs < n
        · have hlt' : (bs : Int) < (n : Int) := by omega
          rcases HB.out with ⟨hgk, rfl, b1, b2, b3⟩ | ⟨hgk, rfl, b1, b2⟩ | ⟨rfl, b1⟩
          · have HB' : Aside (SortedIn (ltOf cf) 0 (min 20 n) dk ∧ SortedIn (ltOf cf) 20 (min 40 n) dk ∧ SortedIn (ltOf cf) 40 n dk) := ⟨b1, b2, b3⟩
            clear b1 b2 b3 HB
            have hgk' : 1 ≤ gk ∧ ¬ gk = 1 := by omega
            clear hgk
            simp only [Int.cast_ofNat_Int] at hlt' ⊢
            go_wp2
            go_loopg [7, 8] 1 (fun gx sa sb wx => ∃ (dj : Array α), dj.size = n ∧ Aside (SWK enc k w blk off dj wx) ∧ Aside (PermIn 0 n d dj) ∧ ((gx = 1 ∧ sa = .int .i64 0 ∧ sb = .int .i64 40 ∧ Aside (SortedIn (ltOf cf) 0 (min 20 n) dj ∧ SortedIn (ltOf cf) 20 (min 40 n) dj ∧ SortedIn (ltOf cf) 40 n dj)) ∨ (gx = 0 ∧ 40 ≤ n ∧ sa = .int .i64 40 ∧ sb = .int .i64 80 ∧ Aside (SortedIn (ltOf cf) 0 40 dj ∧ SortedIn (ltOf cf) 40 n dj))))
            case atStart => exact ⟨dk, hds, S1, HA, .inl ⟨rfl, rfl, rfl, HB'⟩⟩
            case round =>
              clear S1 HA HB' hds
              obtain ⟨dj, hds, S1, HA, hor⟩ := hrel
              rcases hor with ⟨hg, rfl, rfl, hB⟩ | ⟨hg, h40, rfl, rfl, hB⟩
              · have HB := Lib.hid hB.out
                clear hB
                by_cases h40 : 40 ≤ n
                · have h40' : (40 : Int) ≤ (n : Int) := by omega
                  have hcall := HS.out 100 0 20 40 dj wr (by omega) (by rw [HN.out, hds]) S1.out (by omega) (by omega) (by omega) (by omega) (sorted_sub HB.out.1 (by omega) (by omega)) (sorted_sub HB.out.2.1 (by omega) (by omega))
                  rw [hds] at hcall
                  simp only [Int.cast_ofNat_Int] at hcall
                  clear S1
                  go_wp2_with (go_at_fn 84; refine hcall.mono ?_; rintro e w1 ⟨rfl, d1, q1, q2, q3⟩)
                  go_roundg 0
                  case measure => omega
                  case rel => exact ⟨d1, q1.1.trans hds, q3, permIn_trans _ _ _ _ _ HA.out (permIn_mono _ _ _ _ 0 n (by omega) (by omega) (by omega) q1), .inr ⟨rfl, h40, rfl, rfl, q2, sorted_congr HB.out.2.2 fun i h1 _ => q1.2.1 i (.inr h1)⟩⟩
                · have h40' : ¬ (40 : Int) ≤ (n : Int) := by omega
                  have h20' : (20 : Int) < (n : Int) := by omega
                  have hcall := HS.out 100 0 20 n dj wr (by omega) (by rw [HN.out, hds]) S1.out (by omega) (by omega) (by omega) (by omega) (sorted_sub HB.out.1 (by omega) (by omega)) (sorted_sub HB.out.2.1 (by omega) (by omega))
                  rw [hds] at hcall
                  simp only [Int.cast_ofNat_Int] at hcall
                  clear S1
                  go_wp2_with (go_at_fn 84; refine hcall.mono ?_; rintro e w1 ⟨rfl, d1, q1, q2, q3⟩)
                  go_roundg 1
                  case measure => omega
                  case rel => exact ⟨40, d1, by go_num, q1.1.trans hds, q3, permIn_trans _ _ _ _ _ HA.out q1, .inr (.inl ⟨rfl, rfl, sorted_sub q2 (by omega) (by omega), fun i j _ _ _ => by omega⟩)⟩
              · have HB := Lib.hid hB.out
                clear hB
                have h80' : ¬ (80 : Int) ≤ (n : Int) := by omega
                have h60' : ¬ (60 : Int) < (n : Int) := by omega
                go_wp2
                go_roundg 1
                case measure => omega
                case rel => exact ⟨40, dj, by go_num, hds, S1, HA, .inr (.inl ⟨rfl, rfl, sorted_sub HB.out.1 (by omega) (by omega), HB.out.2⟩)⟩
          · have HB' := Lib.hid (⟨b1, b2⟩ : SortedIn (ltOf cf) 0 (min 40 n) dk ∧ SortedIn (ltOf cf) 40 n dk)
            clear b1 b2 HB
            have h80' : ¬ (80 : Int) ≤ (n : Int) := by omega
            simp only [Int.cast_ofNat_Int] at hlt' ⊢
            go_wp2
            go_loopg [7, 8] 0 (fun gx sa sb wx => sa = .int .i64 0 ∧ sb = .int .i64 80 ∧ Aside (SWK enc k w blk off dk wx))
            case atStart => exact ⟨rfl, rfl, S1⟩
            case round =>
              clear S1
              obtain ⟨rfl, rfl, S1⟩ := hrel
              have hcall := HS.out 100 0 40 n dk wr (by omega) (by rw [HN.out, hds]) S1.out (by omega) (by omega) (by omega) (by omega) (sorted_sub HB'.out.1 (by omega) (by omega)) HB'.out.2
              rw [hds] at hcall
              simp only [Int.cast_ofNat_Int] at hcall
              clear S1
              go_wp2_with (go_at_fn 84; refine hcall.mono ?_; rintro e w1 ⟨rfl, d1, q1, q2, q3⟩)
              go_roundg 0
              case measure => omega
              case rel => exact ⟨80, d1, by go_num, q1.1.trans hds, q3, permIn_trans _ _ _ _ _ HA.out q1, .inr (.inr ⟨rfl, q2⟩)⟩
          · exact absurd h60 (by omega)
        · have hlt' : ¬ (bs : Int) < (n : Int) := by omega
          go_wp2
          go_end0
          refine ⟨rfl, dk, HA.out, ?_, S1.out⟩
          rcases HB.out with ⟨_, rfl, b1, b2, b3⟩ | ⟨_, rfl, b1, b2⟩ | ⟨rfl, b1⟩
          · exact sorted_sub b1 (by omega) (by omega)
          · exact sorted_sub b1 (by omega) (by omega)
          · exact b1
set_option maxHeartbeats 1000000 in
theorem sortStable_any {k : Nat} (L : StabL P k) (enc : α → List Value) (cf : α → α → Int) (hO : SWO (ltOf cf)) (g : Nat) (cb : Array Value) (blk off cap : Nat) (d : Array α) (w : World)
    (eg : ∀ args w, (callFunc g args).run P w = .ok (.enter g args) w) (hcmp : CmpLays P g cb enc k cf blk off d.size w) (R : RowK enc k w blk off d) (hI : InsOk P enc k cf g cb blk off cap d.size w) (h60 : d.size < 60) :
    Calls P 47 #[.slice (some ⟨blk, off, none⟩) d.size cap, .func (.func g) #[] cb] w fun e w' =>
      e = .returned (.tuple #[]) ∧ ∃ d', PermIn 0 d.size d d' ∧ SortedIn (ltOf cf) 0 d.size d' ∧ SWK enc k w blk off d' w' := by
  have mixed := L.mixed
  have ti := L.ti
  have ai := L.ai
  have zi := L.zi
  have vi := L.vi
  have tu := L.tu
  have au := L.au
  have zu := L.zu
  have tb := L.tb
  have ab := L.ab
  have zb := L.zb
  have vb := L.vb
  have ts := L.ts
  have asl := L.asl
  have zs := L.zs
  have vs := L.vs
  have af := L.af
  have zf := L.zf
  have aE := L.aE
  have zE := L.zE
  have FG := L.fSS
  have e56 := L.eSt
  have hcall := stable_any L enc cf hO g cb blk off cap d w eg hcmp R hI h60
  clear hcmp hI
  go_enter FG, Tryd.ntmps47
  go_wp2_with (go_at_fn 72; refine hcall.mono ?_; rintro e w1 ⟨rfl, d1, q1, q2, q3⟩)
  go_end0
  exact ⟨rfl, d1, q1, q2, q3⟩
end
theorem stabL : StabL Tryd.prog 8 where
  mixed := by kernel_rfl
  fSR := Tryd.func107
  fRo := Tryd.func97
  fSM := Tryd.func84
  fSt := Tryd.func72
  fSS := Tryd.func47
  eSR := enters_of Tryd.func107 (by kernel_rfl) rfl
  eRo := enters_of Tryd.func97 (by kernel_rfl) rfl
  eSM := enters_of Tryd.func84 (by kernel_rfl) rfl
  eSt := enters_of Tryd.func72 (by kernel_rfl) rfl
  eIn := enters_of Tryd.func83 (by kernel_rfl) rfl
  ti := Tryd.underlying3
  ai := Tryd.isAgg3
  zi := Tryd.sizeOf3
  vi := Tryd.zeroValue3
  tu := Tryd.underlying97
  au := Tryd.isAgg97
  zu := Tryd.sizeOf97
  tb := Tryd.underlying4
  ab := Tryd.isAgg4
  zb := Tryd.sizeOf4
  vb := Tryd.zeroValue4
  ts := Tryd.underlying38
  asl := Tryd.isAgg38
  zs := Tryd.sizeOf38
  vs := Tryd.zeroValue38
  af := Tryd.isAgg50
  zf := Tryd.sizeOf50
  aE := Tryd.isAgg24
  zE := Tryd.sizeOf24
end Go.Proofs.YtbjhemglecllmaaDoor
/-
  A whole aggregate stored into an element of a slice of the call's own. No program in sight.
-/
namespace Go.Tw
open Go.RowKit
section
variable {P : Program}
theorem run_storeA {t t2 : TypeId} {n g k : Nat} {cur A : Array Value} {w : World} (hsz : ∀ w, (sizeOf t).run P w = .ok n w) (hA : A.size = n) (h1 : ∀ v ∈ A.toList, v.oneCell' = true) (hg : w.heap[g]? = some (.cells cur t2 (0, 0))) (hl : k + n ≤ cur.size) :
    Sem.run P (Instr.storeAt t (.pointer (some ⟨g, k, none⟩)) (.agg A)) w = .ok () (w.setRow g (cur.toList.take k ++ A.toList ++ cur.toList.drop (k + n)).toArray) := by
  unfold Instr.storeAt Instr.sureAddr storeVar
  simp only [Sem.run_bind, Sem.run_pure, Result.andThen_ok, hsz, Value.cells]
  simp only [hA, ne_eq, not_true_eq_false, ↓reduceIte]
  have := run_storeCells_at P g k t2 A.toList 0 cur w hg (by simp [hA]; omega) h1
  rw [this]
  simp [hA]
theorem wp_storeA {o : Oper} {a : Act} {w : World} {K : Act → World → Prop} {Q : Exit → Act → World → Prop} (p x : Operand) (t : TypeId) (ho : o.op = .store t p x) (hd : o.dst = none)
    {A cur : Array Value} {n g k : Nat} {t2 : TypeId} (hsz : ∀ w, (sizeOf t).run P w = .ok n w) (hA : A.size = n) (h1 : ∀ v ∈ A.toList, v.oneCell' = true) (hp : a.eval p = .pointer (some ⟨g, k, none⟩)) (hx : a.eval x = .agg A)
    (hg : w.heap[g]? = some (.cells cur t2 (0, 0))) (hl : k + n ≤ cur.size) (h : K a (w.setRow g (cur.toList.take k ++ A.toList ++ cur.toList.drop (k + n)).toArray)) : o.wp P a w K Q := by
  have e2 : (execOp a.eval o).run P w = .ok .skip (w.setRow g (cur.toList.take k ++ A.toList ++ cur.toList.drop (k + n)).toArray) := by
    unfold execOp
    simp only [ho, hx, hp, Sem.run_bind, Sem.run_pure, Result.andThen_ok, run_storeA hsz hA h1 hg hl]
  unfold Oper.wp
  rw [e2]
  unfold Oper.upon
  rw [hd]
  exact h
theorem wpList_storeA {ops : Array Oper} {rest : List Oper} {o : Oper} {a : Act} {w : World} {Q : Exit → Act → World → Prop} (p x : Operand) (hgd : o.guard = none) (t : TypeId) (ho : o.op = .store t p x) (hd : o.dst = none)
    {A cur : Array Value} {n g k : Nat} {t2 : TypeId} (hsz : ∀ w, (sizeOf t).run P w = .ok n w) (hA : A.size = n) (h1 : ∀ v ∈ A.toList, v.oneCell' = true) (hp : a.eval p = .pointer (some ⟨g, k, none⟩)) (hx : a.eval x = .agg A)
    (hg : w.heap[g]? = some (.cells cur t2 (0, 0))) (hl : k + n ≤ cur.size) (h : wpList P ops Q rest a (w.setRow g (cur.toList.take k ++ A.toList ++ cur.toList.drop (k + n)).toArray)) : wpList P ops Q (o :: rest) a w :=
  wpList_plain hgd fun _ hK => wp_storeA p x t ho hd hsz hA h1 hp hx hg hl (hK _ _ h)
end
variable {α : Type} {T : Ty α} {e : TypeId} {w : World} {v : Value} {l : List α}
theorem AllIs.setAt (hT : T.Flat) {S : Nat → Prop} : ∀ {css : List (List Value)} {l : List α} (i : Nat) {ci : List Value} {y : α}, AllIs T S w css l → T.is S w ci y → ∀ {w' : World}, AllIs T S w' (css.set i ci) (l.set i y)
  | [], [], _, _, _, _, _, _ => by simp [AllIs]
  | _ :: css, _ :: l, 0, _, _, h, hy, _ => ⟨hT hy, AllIs.flat hT h.2⟩
  | _ :: css, _ :: l, i + 1, _, _, h, hy, _ => ⟨hT h.1, AllIs.setAt hT i h.2 hy⟩
  | [], _ :: _, _, _, _, h, _, _ => h.elim
  | _ :: _, [], _, _, _, h, _, _ => h.elim
theorem flat_set_mid : ∀ {css : List (List Value)} {n : Nat} (i : Nat) {ci rest : List Value}, (∀ c ∈ css, c.length = n) → i < css.length → ci.length = n →
    (css.flatten ++ rest).take (i * n) ++ ci ++ (css.flatten ++ rest).drop (i * n + n) = (css.set i ci).flatten ++ rest
  | c :: css, n, 0, ci, rest, h, _, hc => by
    have := h c (by simp)
    simp only [List.flatten_cons, List.append_assoc, Nat.zero_mul, List.take_zero, List.nil_append, Nat.zero_add, List.set_cons_zero]
    rw [List.drop_append_of_le_length (by omega), List.drop_of_length_le (by omega), List.nil_append]
  | c :: css, n, i + 1, ci, rest, h, hi, hc => by
    have hcl := h c (by simp)
    have ih := flat_set_mid (css := css) (n := n) i (ci := ci) (rest := rest) (fun d hd => h d (by simp [hd])) (by simpa using hi) hc
    simp only [List.flatten_cons, List.append_assoc, List.set_cons_succ]
    rw [← ih]
    have e1 : (i + 1) * n = c.length + i * n := by rw [Nat.succ_mul]; omega
    rw [e1, List.take_length_add_append, Nat.add_assoc, List.drop_length_add_append]
    simp
  | [], _, _, _, _, _, h, _ => absurd h (Nat.not_lt_zero _)
theorem AllIs.lens {S : Nat → Prop} : ∀ {css : List (List Value)} {l : List α}, AllIs T S w css l → css.length = l.length ∧ ∀ c ∈ css, c.length = T.sz
  | [], [], _ => ⟨rfl, fun _ h => absurd h List.not_mem_nil⟩
  | c :: css, _ :: l, h => by
    obtain ⟨h1, h2⟩ := AllIs.lens h.2
    refine ⟨by simp [h1], fun d hd => ?_⟩
    rcases List.mem_cons.1 hd with rfl | hd
    · exact T.len h.1
    · exact h2 d hd
  | [], _ :: _, h => h.elim
  | _ :: _, [], h => h.elim
/-- where an own slice's elements lie, and what a whole store into one of them makes of it -/
theorem OwnSl.storeA {B : Nat} (hT : T.Flat) (h : OwnSl T e B w v l) (hl : 0 < l.length) : ∃ g cap cur, v = .slice (some ⟨g, 0, none⟩) l.length cap ∧ B ≤ g ∧ g < w.heap.size ∧ w.heap[g]? = some (.cells cur e (0, 0)) ∧ l.length * T.sz ≤ cur.size ∧
    ∀ (i : Nat) (A : Array Value) (y : α) (S : Nat → Prop), i < l.length → T.is S w A.toList y → OwnSl T e B (w.setRow g (cur.toList.take (i * T.sz) ++ A.toList ++ cur.toList.drop (i * T.sz + T.sz)).toArray) v (l.set i y) := by
  obtain ⟨css, h1, h2⟩ := h
  rcases h1.2 with ⟨_, h'⟩ | ⟨g, cap, cur, rfl, hB, hg, h3, h4, h5, h6⟩
  · omega
  have hlt := (Array.getElem?_eq_some_iff.1 hg).1
  obtain ⟨l1, l2⟩ := h2.lens
  refine ⟨g, cap, cur, rfl, hB, hlt, hg, by rw [h5]; exact Nat.mul_le_mul_right _ h3, fun i A y S hi hy => ?_⟩
  have hAl := T.len hy
  have hfl := h2.flatten_len
  have e1 : cur.toList = css.flatten ++ cur.toList.drop (l.length * T.sz) := by rw [← h6, List.take_append_drop]
  have e2 : cur.toList.take (i * T.sz) ++ A.toList ++ cur.toList.drop (i * T.sz + T.sz) = (css.set i A.toList).flatten ++ cur.toList.drop (l.length * T.sz) := by
    conv => lhs; rw [e1]
    exact flat_set_mid i l2 (by omega) hAl
  have hfl2 : (css.set i A.toList).flatten.length = l.length * T.sz := by
    have := congrArg List.length e2
    have h7 := congrArg List.length e1
    have h8 : (i + 1) * T.sz ≤ l.length * T.sz := Nat.mul_le_mul_right _ hi
    have h9 : l.length * T.sz ≤ cap * T.sz := Nat.mul_le_mul_right _ h3
    rw [Nat.succ_mul] at h8
    simp only [List.length_append, List.length_take, List.length_drop, Array.length_toList, hAl] at this h7
    omega
  refine ⟨css.set i A.toList, ⟨by rw [hfl2, List.length_set], .inr ⟨g, cap, _, by rw [List.length_set], hB, setRow_heap _ _ cur _ e (0, 0) hg, by rw [List.length_set]; exact h3, h4, ?_, ?_⟩⟩, ?_⟩
  · rw [e2]
    have h8 : l.length * T.sz ≤ cap * T.sz := Nat.mul_le_mul_right _ h3
    simp only [List.size_toArray, List.length_append, hfl2, List.length_drop, Array.length_toList]
    omega
  · rw [e2]
    simp only [List.length_set]
    rw [← hfl2, List.take_left']
    rfl
  · exact (AllIs.setAt hT (w' := w.setRow g _) i h2 (hT hy)).keep (fun k hk => ⟨by rw [show (w.setRow g _).heap.size = w.heap.size from by simp [World.setRow]]; exact hk.1, hk.2⟩) (SameOn.refl _ _)
theorem below_setRow {B g : Nat} {w w' : World} {cs : Array Value} (h : Below B w w') (hB : B ≤ w'.heap.size) (hg : B ≤ g) : Below B w (w'.setRow g cs) :=
  h.trans (Below.of_grown (row := some g) ⟨rfl, rfl, rfl, by simp [World.setRow], fun k _ hk => setRow_other w' g k _ (fun e => hk (by simp [e]))⟩ hB (fun k hk => by cases hk; exact hg))
end Go.Tw
/-
  Layer 17 (passage): passages in memory; slices.SortStableFunc at passages of the call's own.
-/
namespace Go.Tw.Ps
open Go.RowKit Go.Tw Go.Sort Go.Tw.Ord
open Go.Proofs (sortWorld sortWorldK ltOf)
theorem pCells_len (x : Pas) (v : Value) : (pCells x v).length = 8 := rfl
theorem pCells_one {x : Pas} {ao : Option Addr} {n c : Nat} : ∀ u ∈ pCells x (.slice ao n c), u.oneCell' = true := by
  intro u hu
  unfold pCells at hu
  simp only [List.mem_cons, List.not_mem_nil, or_false] at hu
  rcases hu with rfl | rfl | rfl | rfl | rfl | rfl | rfl | rfl <;> rfl
/-- the cells of a row of passages -/
theorem pas_row {e : TypeId} {S : Nat → Prop} {w : World} {v : Value} {l : List Pas} (h : SlIs (tPas e) S w v l) :
    ∃ ao cap b off, v = .slice ao l.length cap ∧ l.length ≤ cap ∧ cap ≤ maxLen ∧ ∀ w', SameOn S w w' → ∀ k (_ : k < l.length), ao = some ⟨b, off, none⟩ ∧ S b ∧ b < w.heap.size ∧ PasOk l[k] ∧
      ∃ a n c, SlIs tSrc S w' (.slice a n c) l[k].src ∧ ∀ j, j < 8 → w'.cell? ⟨b, off + k * 8 + j, none⟩ = (pCells l[k] (.slice a n c))[j]? := by
  obtain ⟨ao, cap, b, off, hv, h1, h2, h3⟩ := h.openS
  refine ⟨ao, cap, b, off, hv, h1, h2, fun w' hw k hk => ?_⟩
  obtain ⟨g1, g2, g2', cs, g3, g4⟩ := h3 w' hw k hk
  obtain ⟨vs, rfl, g5, g6⟩ := tPas_is g4
  obtain ⟨a, c, _, _, rfl, -⟩ := id g6
  exact ⟨g1, g2, g2', g5, a, _, c, g6, g3⟩
/-- a passage with its slice, in a world, apart from block g -/
structure PV (w0 : World) (g : Nat) where
  p : Pas
  a : Option Addr
  n : Nat
  c : Nat
  sl : SlIs tSrc (fun k => k < w0.heap.size ∧ k ≠ g) w0 (.slice a n c) p.src
  ok : PasOk p
instance (w0 : World) (g : Nat) : Inhabited (PV w0 g) := ⟨⟨default, none, 0, 0, SlIs.nil, by
  have z : i64ok 0 := by unfold i64ok; decide
  exact ⟨Nat.zero_le _, Nat.zero_le _, z, Nat.zero_le _, Nat.zero_le _, z, z⟩⟩⟩
def pvE {w0 : World} {g : Nat} (x : PV w0 g) : List Value := pCells x.p (.slice x.a x.n x.c)
def pvC {w0 : World} {g : Nat} (x y : PV w0 g) : Int := pasC x.p y.p
theorem pvC_cmp (w0 : World) (g : Nat) : Cmp (pvC (w0 := w0) (g := g)) := pasC_cmp.on PV.p
theorem AllIs.pv {e : TypeId} {w0 : World} {g : Nat} : ∀ {css : List (List Value)} {l : List Pas}, AllIs (tPas e) (fun k => k < w0.heap.size ∧ k ≠ g) w0 css l → ∃ ds : List (PV w0 g), ds.map PV.p = l ∧ css = ds.map pvE
  | [], [], _ => ⟨[], rfl, rfl⟩
  | cs :: css, x :: l, h => by
    obtain ⟨ds, h1, h2⟩ := AllIs.pv h.2
    obtain ⟨vs, rfl, g5, g6⟩ := tPas_is h.1
    obtain ⟨a, c, _, _, rfl, -⟩ := id g6
    exact ⟨⟨x, a, _, c, g6, g5⟩ :: ds, by simp [h1], by simp [h2, pvE]⟩
  | [], _ :: _, h => h.elim
  | _ :: _, [], h => h.elim
theorem sortWorldK_same {w0 : World} {g : Nat} (m : Nat) (dk : Array (PV w0 g)) (os : Array Obj) : SameOn (fun k => k < w0.heap.size ∧ k ≠ g) w0 (sortWorldK pvE 8 w0 g 0 m dk os) ∧ w0.heap.size ≤ (sortWorldK pvE 8 w0 g 0 m dk os).heap.size := by
  have h1 : ∀ k, k < w0.heap.size → k ≠ g → (sortWorldK pvE 8 w0 g 0 m dk os).heap[k]? = w0.heap[k]? := fun k hk hne => by
    have e1 : (putRowK pvE 8 (Sort.ahead w0 m) g 0 dk).heap[k]? = w0.heap[k]? := by
      unfold putRowK Sort.putRow Sort.mapBlock
      rw [show ∀ (h : Array Obj) (f : Obj → Obj), (h.modify g f)[k]? = h[k]? from fun h f => by
        rw [Array.getElem?_modify, if_neg (fun e => hne e.symm)]]
      rfl
    have e2 : k < (putRowK pvE 8 (Sort.ahead w0 m) g 0 dk).heap.size := by
      unfold putRowK Sort.putRow Sort.mapBlock
      simp
      exact hk
    unfold sortWorldK
    rw [Sort.heap_grow_old _ _ e2, e1]
  refine ⟨fun k hk => h1 k hk.1 hk.2, ?_⟩
  unfold sortWorldK Sort.grow putRowK Sort.putRow Sort.mapBlock Sort.ahead
  simp
theorem sortWorldK_belowP {w0 : World} {g : Nat} (m : Nat) (dk : Array (PV w0 g)) (os : Array Obj) {B : Nat} (hB : B ≤ w0.heap.size) (hb : B ≤ g) : Below B w0 (sortWorldK pvE 8 w0 g 0 m dk os) :=
  ⟨rfl, rfl, rfl, (sortWorldK_same m dk os).2, fun k hk => (sortWorldK_same m dk os).1 k ⟨by omega, by omega⟩⟩
theorem pv_perm {α : Type} [Inhabited α] {d d' : Array α} (h : PermIn 0 d.size d d') : d'.toList.Perm d.toList := by
  have := h.2.2
  rw [Array.extract_size] at this
  rw [show d'.extract 0 d.size = d' by rw [← h.1, Array.extract_size]] at this
  exact this
theorem pv_sorted {w0 : World} {g : Nat} {d : Array (PV w0 g)} (h : SortedIn (ltOf pvC) 0 d.size d) : (d.toList.map PV.p).Pairwise fun x y => pasC x y ≤ 0 := by
  rw [List.pairwise_map, List.pairwise_iff_getElem]
  intro i j hi hj hij
  have hj' : j < d.size := by simpa using hj
  have := h i j (Nat.zero_le _) hij hj'
  rw [getElem!_pos d j hj', getElem!_pos d i (by omega)] at this
  unfold ltOf at this
  have a := pasC_cmp.anti d[i].p d[j].p
  simp only [decide_eq_false_iff_not, Int.not_lt] at this
  show pasC d.toList[i].p d.toList[j].p ≤ 0
  simp only [Array.getElem_toList]
  unfold pvC at this
  omega
theorem holdsPV {w0 w : World} {g' g : Nat} {t : TypeId} {A : Array Value} {ds : List (PV w0 g')} (h : w.heap[g]? = some (.cells A t (0, 0))) (hA : ∀ k j, k < ds.length → j < 8 → A[k * 8 + j]? = (pvE (ds.getD k default))[j]?) : HoldsK pvE 8 w g 0 ds.toArray := by
  intro t' ht
  have ht' : t' < ds.length * 8 := by simpa using ht
  refine ⟨?_, frozen_of_row _ _ _ _ _ h⟩
  rw [cell_of_row _ _ _ _ _ _ h, Nat.zero_add, get_flatK _ _ _ _ (by simpa using ht')]
  have hk : t' / 8 < ds.length := by omega
  have hj : t' % 8 < 8 := Nat.mod_lt _ (by decide)
  have := hA (t' / 8) (t' % 8) hk hj
  rw [show t' / 8 * 8 + t' % 8 = t' by omega] at this
  rw [this]
  have e : ds.toArray[t' / 8]! = ds.getD (t' / 8) default := by
    rw [getElem!_pos ds.toArray _ (by simpa using hk), List.getD_eq_getElem?_getD, List.getElem?_eq_getElem hk]
    simp
  rw [e, List.getElem?_eq_getElem (by show t' % 8 < 8; exact hj)]
  show some _ = some _
  rw [getElem!_pos (pvE _) (t' % 8) (by show t' % 8 < 8; exact hj)]
  rfl
/-- the sorted row, read again -/
theorem slP_of {e : TypeId} {w0 w : World} {g cap : Nat} {ds : List (PV w0 g)} (h : HoldsK pvE 8 w g 0 ds.toArray) (hg : g < w.heap.size) (hw : SameOn (fun k => k < w0.heap.size ∧ k ≠ g) w0 w) (hz : w0.heap.size ≤ w.heap.size) (hc : ds.length ≤ cap) (hm : cap ≤ maxLen) :
    SlIs (tPas e) (· < w.heap.size) w (.slice (some ⟨g, 0, none⟩) ds.length cap) (ds.map PV.p) := by
  refine ⟨some ⟨g, 0, none⟩, cap, g, 0, by simp, by simpa using hc, hm, fun e => (by cases e), fun k hk => ?_⟩
  have hk' : k < ds.length := by simpa using hk
  refine ⟨rfl, hg, hg, pvE ds[k], fun j hj => ?_, ?_⟩
  · have hj5 : j < 8 := hj
    have := (h (k * 8 + j) (by simp; omega)).1
    rw [Nat.zero_add] at this
    show w.cell? ⟨g, 0 + k * 8 + j, none⟩ = _
    rw [show 0 + k * 8 + j = k * 8 + j by omega, this, get_flatK _ _ _ _ (by simp; omega), show (k * 8 + j) / 8 = k by omega, show (k * 8 + j) % 8 = j by omega]
    rw [getElem!_pos ds.toArray k (by simpa using hk')]
    rw [List.getElem?_eq_getElem (by show j < 8; exact hj5)]
    show some (id _) = some _
    rw [getElem!_pos _ j (by show j < 8; exact hj5)]
    simp
  · rw [List.getElem_map]
    exact tPas_mk ds[k].ok (ds[k].sl.keep (fun q hq => Nat.lt_of_lt_of_le hq.1 hz) hw)
end Go.Tw.Ps
namespace Go.Proofs.YtbjhemglecllmaaDoor
open Go.RowKit Go.Tw Go.Tw.Ord Go.Tw.Ps Go.Sort
theorem cmpLaysP (w0 : World) (g size : Nat) : CmpLays Tryd.prog 48 #[] (pvE (w0 := w0) (g := g)) 8 pvC g 0 size w0 := fun m os dk _ x y => by
  obtain ⟨h1, h2⟩ := sortWorldK_same m dk os
  exact (compare_any x.p y.p _ _ _ (x.sl.keep (fun k hk => Nat.lt_of_lt_of_le hk.1 h2) h1) (y.sl.keep (fun k hk => Nat.lt_of_lt_of_le hk.1 h2) h1)).mono fun _ _ h => ⟨h.1, h.2⟩
theorem pvE_len {w0 : World} {g : Nat} (x : PV w0 g) : (pvE x).length = 8 := rfl
theorem pvE_one {w0 : World} {g : Nat} (x : PV w0 g) : ∀ v ∈ pvE x, v.oneCell' = true := pCells_one
theorem insOkP (w0 : World) (g cap n : Nat) (d0 : Array (PV w0 g)) (R : RowK pvE 8 w0 g 0 d0) (hd : d0.size = n) (hn : n < 60) : InsOk Tryd.prog (pvE (w0 := w0) (g := g)) 8 pvC 48 #[] g 0 cap n w0 := by
  intro a b d w hdn S hab hb
  have hcon := AnyQ.insertionSortCmpFunc Tryd.insK 8 Tryd.isAgg24 Tryd.sizeOf24 pvE pvE_len pvE_one pvC 48 #[] g 0 cap a b d w (enters_of Tryd.func48 (by kernel_rfl) rfl) (fun m os dk hdk x y => by
      obtain ⟨m1, os1, e⟩ := S.on R.hblk m dk os hdk
      rw [e]
      exact cmpLaysP w0 g n m1 os1 dk (hdk.trans hdn) x y) (S.holds R.hblk R.hH (by omega)) (S.lt R.hblk) hab (by omega) (by omega)
  rw [hdn] at hcon
  refine hcon.mono ?_
  rintro e w' ⟨rfl, m, os, rfl⟩
  have hp := insertionSort_holds (pvC_cmp w0 g).swo d a b hab (by omega)
  exact ⟨rfl, _, hp.1, hp.2, S.on R.hblk m _ os hp.1.1⟩
theorem insP_nil (fv : Value) (cap : Nat) (w : World) : Calls Tryd.prog 83 #[.slice none 0 cap, .int .i64 0, .int .i64 0, fv] w fun e w' => e = .returned (.tuple #[]) ∧ w = w' := by
  go_enter Tryd.func83, Tryd.ntmps83
  go_wp2
  refine wp_loop_rounds 1 ?_
  rw [rounds_succ]
  go_wp2
  go_end0
  exact ⟨rfl, rfl⟩
/-- .. of a row of the call's own -/
theorem sortStP_any {e : TypeId} (l : List Pas) (g cap B : Nat) (w : World) (h : OwnSl (tPas e) 24 B w (.slice (some ⟨g, 0, none⟩) l.length cap) l) (hB : B ≤ w.heap.size) (hlen : l.length < 60) :
    Calls Tryd.prog 47 #[.slice (some ⟨g, 0, none⟩) l.length cap, .func (.func 48) #[] #[]] w fun e' w' => e' = .returned (.tuple #[]) ∧ SlIs (tPas e) (· < w'.heap.size) w' (.slice (some ⟨g, 0, none⟩) l.length cap) (sortP l) ∧ Below B w w' := by
  obtain ⟨css, h1, h2⟩ := h
  rcases h1.2 with ⟨q, hz⟩ | ⟨g', cap', cur, q, q1, q2, q3, q4, q5, q6⟩
  · cases q
  injection q with e1 _ e3
  injection e1 with e1
  injection e1 with e1 _
  subst e1
  subst e3
  have h2' : AllIs (tPas e) (fun k => k < w.heap.size ∧ k ≠ g) w css l := h2.widen fun k hk => ⟨hk.1, fun q => hk.2 (by rw [q]; rfl)⟩
  obtain ⟨ds, hd1, hd2⟩ := AllIs.pv h2'
  have hdl : ds.length = l.length := by rw [← hd1, List.length_map]
  have hH : HoldsK pvE 8 w g 0 ds.toArray := holdsPV q2 (fun k j hk hj => by
    have hfl := h2'.at.2 k (by omega)
    obtain ⟨cs, c1, c2, c3⟩ := hfl
    rw [hd2, List.getElem?_map, List.getElem?_eq_getElem hk] at c1
    have hcs : cs = pvE ds[k] := (Option.some.inj c1).symm
    rw [List.getD_eq_getElem?_getD, List.getElem?_eq_getElem hk, Option.getD_some, ← hcs, ← c3 j hj, ← q6, List.getElem?_take, if_pos (by show k * 8 + j < l.length * 8; omega), Array.getElem?_toList]
    rfl)
  have R : RowK pvE 8 w g 0 ds.toArray := ⟨pvE_len, pvE_one, hH, lt_of_heap q2⟩
  have hcon := sortStable_any stabL pvE pvC (pvC_cmp w g).swo 48 #[] g 0 cap ds.toArray w (enters_of Tryd.func48 (by kernel_rfl) rfl) (cmpLaysP _ _ _) R (insOkP w g cap _ ds.toArray R rfl (by simpa [hdl] using hlen)) (by simpa [hdl] using hlen)
  rw [show ds.toArray.size = l.length by simpa using hdl] at hcon
  refine hcon.mono ?_
  rintro e' w' ⟨rfl, d', hp, hs, hw⟩
  have hds : d'.size = ds.toArray.size := by rw [hp.1]
  have hperm : d'.toList.Perm ds := by
    have hp' : PermIn 0 ds.toArray.size ds.toArray d' := by rw [show ds.toArray.size = l.length by simpa using hdl]; exact hp
    simpa using pv_perm hp'
  have hsrt : d'.toList.map PV.p = sortP l := by
    refine sortP_uniq ?_ (pv_sorted (d := d') (by rw [hds, show ds.toArray.size = l.length by simpa using hdl]; exact hs))
    rw [← hd1]
    exact hperm.map _
  have hH2 := hw.holds (lt_of_heap q2) hH hds
  have hlt := hw.lt (lt_of_heap q2)
  obtain ⟨n, os, rfl⟩ := hw
  obtain ⟨s1, s2⟩ := sortWorldK_same (w0 := w) (g := g) n d' os
  have hdl' : d'.toList.length = l.length := by rw [hperm.length_eq, hdl]
  have := slP_of (e := e) (cap := cap) (ds := d'.toList) (by simpa using hH2) hlt s1 s2 (by rw [hdl']; exact q3) q4
  rw [hdl', hsrt] at this
  exact ⟨rfl, this, sortWorldK_belowP n d' os hB q1⟩
end Go.Proofs.YtbjhemglecllmaaDoor
/-
  Layer 17 (passage): slices.Clone of sources, copied, Sort.
-/
namespace Go.Proofs.YtbjhemglecllmaaDoor
open Go.RowKit Go.Tw Go.Tw.Ord Go.Tw.Ps Go.Sort
abbrev eS : TypeId := 54
theorem slSrc : SlT Tryd.prog 22 54 2 24 := SlT.of (z := .agg #[.string ByteArray.empty, .int .i64 0]) Tryd.underlying22 (by kernel_rfl) rfl (by decide)
theorem slPas : SlT Tryd.prog 38 24 8 112 := SlT.of (z := .agg #[.string ByteArray.empty, .string ByteArray.empty, .int .i64 0, .string ByteArray.empty, .string ByteArray.empty, .int .i64 0, .int .i64 0, .slice none 0 0]) Tryd.underlying38 (by kernel_rfl) rfl (by decide)
set_option maxHeartbeats 400000 in
theorem cloneS_any (l : List Src) (v : Value) (w : World) (h : SlIs tSrc (· < w.heap.size) w v l) (hlen : l.length ≤ 1000000) :
    Calls Tryd.prog 71 #[v] w fun e w' => (∃ v', e = .returned v' ∧ OwnSl tSrc 54 w.heap.size w' v' l) ∧ Below w.heap.size w w' := by
  have h' := h
  obtain ⟨ao, cap, b, off, hv, hl, hm, h3, ho⟩ := h
  subst hv
  have heq := fun w => Lib.run_eql_slice_nil (P := Tryd.prog) w 22 54 ao l.length cap 0 0 Tryd.underlying22
  cases ao with
  | none =>
    have hc := h3 rfl
    subst hc
    obtain rfl : l = [] := List.eq_nil_of_length_eq_zero (by omega)
    simp only [List.length_nil] at heq
    clear h3 ho h'
    go_enter Tryd.func71, Tryd.ntmps71
    go_wp2
    go_ret
    exact ⟨⟨_, rfl, OwnSl.nil _ _ _ _⟩, Below.refl _ _⟩
  | some a =>
    have HH := Lib.hid h'
    clear h3 ho h'
    have o0 : OwnSl tSrc 54 w.heap.size (w.alloc (.cells #[] 54)) (.slice (some ⟨w.heap.size, 0, none⟩) 0 0) [] := OwnSl.lit (css := []) rfl trivial (Nat.le_refl _) (by decide)
    have h2 : SlIs tSrc (· < w.heap.size) (w.alloc (.cells #[] 54)) (.slice (some a) l.length cap) l := HH.out.keep (fun _ h => h) (fun k hk => Below.heap_alloc _ _ _ hk)
    have H2 := Lib.hid h2
    have HO := Lib.hid o0
    have HL := Lib.hid hlen
    clear o0 h2
    go_enter Tryd.func71, Tryd.ntmps71
    go_wp2_with (at_builtin; refine wpList_append_old (.tmp 5) (.tmp 6) rfl 22 rfl slSrc rfl HO.out rfl H2.out (small_bytes (k := 1000000) (by simpa using HL.out) (by decide)) (Nat.le_trans (by simpa using HL.out) (show 1000000 ≤ maxLen by decide)) (by simp) ?_; intro v' w1 ho1 hg1 hb1)
    go_ret
    exact ⟨⟨_, rfl, ho1⟩, (bl_alloc (Below.refl _ _) _).trans hb1⟩
/-- a passage is loaded whole -/
theorem load_pas {w : World} {b o : Nat} {x : Pas} {v : Value} (P : Program) (h : ∀ j, j < 8 → w.cell? ⟨b, o + j, none⟩ = (pCells x v)[j]?) : Sem.run P (loadCellsFrom ⟨b, o, none⟩ 0 8 #[]) w = .ok (pCells x v).toArray w :=
  run_loadCellsFrom_list P w ⟨b, o, none⟩ (pCells x v) 8 rfl fun j u hu => by
    have hj : j < 8 := (List.getElem?_eq_some_iff.1 hu).1
    rw [Addr.add_lit, h j hj, hu]
def PBox (w : World) (b : Nat) (A : Array Value) : Prop := w.heap[b]? = some (.cells A 24 (0, 0))
theorem PBox.cell {w : World} {b : Nat} {A : Array Value} (h : PBox w b A) (j : Nat) {v : Value} (hv : A[j]? = some v) : w.cell? ⟨b, j, none⟩ = some v := by
  rw [cell_of_row _ _ _ _ _ _ h]
  exact hv
theorem PBox.load {w : World} {b : Nat} {x : Pas} {v : Value} {A : Array Value} (h : PBox w b A) (hA : (pCells x v).toArray = A) : Sem.run Tryd.prog (loadCellsFrom ⟨b, 0, none⟩ 0 8 #[]) w = .ok A w := by
  subst hA
  exact load_pas _ fun j hj => by
    rw [Nat.zero_add, cell_of_row _ _ _ _ _ _ h]
    simp
theorem PBox.step {w w' : World} {b : Nat} {A : Array Value} (h : PBox w b A) (hb : Below w.heap.size w w') : PBox w' b A := Go.Tw.Below.at_old hb h
theorem PBox.set {w : World} {b : Nat} {A : Array Value} (h : PBox w b A) (j : Nat) (v : Value) : PBox (w.setCell ⟨b, j, none⟩ v) b (A.setIfInBounds j v) := heap_setCell_same _ _ _ _ _ _ h
set_option maxRecDepth 100000 in
set_option maxHeartbeats 2000000 in
theorem copied_any (x : Pas) (a : Option Addr) (n c : Nat) (w : World) (h : SlIs tSrc (· < w.heap.size) w (.slice a n c) x.src) (hl : x.src.length ≤ 1000000) :
    Calls Tryd.prog 46 #[.agg (pCells x (.slice a n c)).toArray] w fun e w' => (∃ a' n' c', e = .returned (.agg (pCells x (.slice a' n' c')).toArray) ∧ OwnSl tSrc 54 w.heap.size w' (.slice a' n' c') x.src) ∧ Below w.heap.size w w' := by
  obtain ⟨A, hA⟩ : ∃ A, (pCells x (.slice a n c)).toArray = A := ⟨_, rfl⟩
  rw [hA]
  have hb0 : Below w.heap.size w ((w.alloc (.cells A 24)).alloc (.cells #[.string ByteArray.empty, .string ByteArray.empty, .int .i64 0, .string ByteArray.empty, .string ByteArray.empty, .int .i64 0, .int .i64 0, .slice none 0 0] 24)) := bl_alloc (bl_alloc (Below.refl _ _) _) _
  have n0 : PBox ((w.alloc (.cells A 24)).alloc (.cells #[.string ByteArray.empty, .string ByteArray.empty, .int .i64 0, .string ByteArray.empty, .string ByteArray.empty, .int .i64 0, .int .i64 0, .slice none 0 0] 24)) w.heap.size A := alloc2_0 w _ _
  have n1 : PBox ((w.alloc (.cells A 24)).alloc (.cells #[.string ByteArray.empty, .string ByteArray.empty, .int .i64 0, .string ByteArray.empty, .string ByteArray.empty, .int .i64 0, .int .i64 0, .slice none 0 0] 24)) (w.heap.size + 1) _ := alloc2_1 w _ _
  have hsl := SlIs.step h hb0
  have hz2 : ((w.alloc (.cells A 24)).alloc (.cells #[.string ByteArray.empty, .string ByteArray.empty, .int .i64 0, .string ByteArray.empty, .string ByteArray.empty, .int .i64 0, .int .i64 0, .slice none 0 0] 24)).heap.size = w.heap.size + 2 := by simp
  have HA := Lib.hid hA
  have HL := Lib.hid hl
  go_enter Tryd.func46, Tryd.ntmps46
  go_upto_region 1 with (fail)
  obtain ⟨w1, hw1⟩ : ∃ w1, (w.alloc (.cells A 24)).alloc (.cells #[.string ByteArray.empty, .string ByteArray.empty, .int .i64 0, .string ByteArray.empty, .string ByteArray.empty, .int .i64 0, .int .i64 0, .slice none 0 0] 24) = w1 := ⟨_, rfl⟩
  have hzz : (⟨#[]⟩ : ByteArray) = ByteArray.empty := rfl
  simp only [hzz]
  rw [hw1] at hb0 n0 n1 hsl hz2 ⊢
  have c7 := n0.cell 7 (v := .slice a n c) (by rw [← hA]; rfl)
  have HB0 := Lib.hid hb0
  have HN0 := Lib.hid n0
  have HN1 := Lib.hid n1
  have HSL := Lib.hid hsl
  have HZ2 := Lib.hid hz2
  clear hb0 n0 n1 hsl hz2 hw1 hA h hl hzz
  go_wp2_with (first
    | (go_at_call 71
       refine (cloneS_any x.src _ _ HSL.out HL.out).mono ?_
       rintro e w2 ⟨⟨v2, rfl, ho2⟩, hb2⟩
       obtain ⟨a2, c2, rfl, -⟩ := ho2.form
       have HO2 := Lib.hid ho2
       have HB2 := Lib.hid hb2
       have HM0 := Lib.hid (HN0.out.step hb2)
       have c8 := HM0.out.cell 7 (v := .slice a n c) (by rw [← HA.out]; rfl)
       have f8 : w2.frozen? ⟨w.heap.size, 7, none⟩ = false := frozen_of_row _ _ 7 _ _ HM0.out
       obtain ⟨A2, hA2⟩ : ∃ A2, (pCells x (.slice a2 x.src.length c2)).toArray = A2 := ⟨_, rfl⟩
       have hm : PBox (w2.setCell ⟨w.heap.size, 7, none⟩ (.slice a2 x.src.length c2)) w.heap.size A2 := by
         have := HM0.out.set 7 (.slice a2 x.src.length c2)
         rw [← HA.out, show (pCells x (.slice a n c)).toArray.setIfInBounds 7 (.slice a2 x.src.length c2) = (pCells x (.slice a2 x.src.length c2)).toArray from rfl, hA2] at this
         exact this
       have ld := hm.load hA2
       have h1c : ∀ u ∈ A2.toList, u.oneCell' = true := by rw [← hA2]; exact pCells_one
       have hs : A2.size = 8 := by rw [← hA2]; rfl
       have HA2 := Lib.hid hA2
       have HM1 := Lib.hid ((Below.heap_setCell w2 ⟨w.heap.size, 7, none⟩ (.slice a2 x.src.length c2) (w.heap.size + 1) (by show w.heap.size + 1 ≠ w.heap.size; omega)).trans (HN1.out.step hb2))
       clear ho2 hb2 hm hA2)
    | (refine wpList_loadA _ rfl 24 rfl Tryd.isAgg24 Tryd.sizeOf24 rfl (by with_reducible assumption) ?_)
    | (refine wpList_storeA (.tmp 2) (.tmp 7) rfl 24 rfl rfl (A := A2) Tryd.sizeOf24 hs h1c rfl rfl HM1.out (by decide) ?_))
  have hz := HZ2.out
  have hz2 := HB2.out.size
  have hm1 := HM1.out
  rw [show (List.take 0 [Value.string ByteArray.empty, Value.string ByteArray.empty, Value.int IntKind.i64 0, Value.string ByteArray.empty, Value.string ByteArray.empty, Value.int IntKind.i64 0, Value.int IntKind.i64 0, Value.slice none 0 0] ++ A2.toList ++ List.drop (0 + 8) [Value.string ByteArray.empty, Value.string ByteArray.empty, Value.int IntKind.i64 0, Value.string ByteArray.empty, Value.string ByteArray.empty, Value.int IntKind.i64 0, Value.int IntKind.i64 0, Value.slice none 0 0]).toArray = A2 by simp]
  have hF := setRow_heap _ (w.heap.size + 1) _ A2 _ _ hm1
  have hsame : ∀ k, w1.heap.size ≤ k → ((w2.setCell ⟨w.heap.size, 7, none⟩ (.slice a2 x.src.length c2)).setRow (w.heap.size + 1) A2).heap[k]? = w2.heap[k]? := fun k hk =>
    (setRow_other _ _ _ _ (by omega)).trans (Below.heap_setCell w2 _ _ k (by show k ≠ w.heap.size; omega))
  have hbw : Below w.heap.size w ((w2.setCell ⟨w.heap.size, 7, none⟩ (.slice a2 x.src.length c2)).setRow (w.heap.size + 1) A2) :=
    below_setRow (bl_set (HB0.out.trans (HB2.out.mono HB0.out.size)) _ (Nat.le_refl _)) (by rw [World.size_setCell]; omega) (by omega)
  obtain ⟨o1, o2, o3⟩ := OwnL.ofOwn ownSrc HO2.out
  have ho := (o1.keep fun b hb => hsame b (o3 b hb)).to o2 (B := w.heap.size) (fun b hb => by have := o3 b hb; omega)
  exact bodyPost_ret (v := .agg A2) (results_cell_row Tryd.results46 _ _ (w.heap.size + 1) 24 A2 (0, 0) _ rfl hF Tryd.underlying24 rfl (by rw [hs]; kernel_rfl)) rfl ⟨⟨a2, _, c2, by rw [HA2.out], ho⟩, hbw⟩
end Go.Proofs.YtbjhemglecllmaaDoor
/-
  Layer 17 (passage): One, Same, Has, Sort of the reference.
-/
namespace Go.Proofs.YtbjhemglecllmaaDoor
open Go.RowKit Go.Tw Go.Tw.Ord Go.Tw.Ps Go.Sort
theorem add_offG (b o j : Nat) : (⟨b, o, none⟩ : Addr).add j = ⟨b, o + j, none⟩ := by
  unfold Addr.add
  split
  · rename_i h
    have h0 : j = 0 := by simpa using h
    subst h0
    rfl
  · rfl
theorem sl_gr {α : Type} {T : Ty α} {w wr w2 : World} {v : Value} {l : List α} (h : SlIs T (· < w.heap.size) wr v l) (hb : GrB w wr) (hb2 : GrB wr w2) : SlIs T (· < w2.heap.size) w2 v l :=
  h.keep (fun _ hk => Nat.lt_of_lt_of_le hk (Nat.le_trans hb.below.size hb2.below.size)) fun k hk => hb2.below.block k (Nat.lt_of_lt_of_le hk hb.below.size)
set_option maxRecDepth 100000 in
set_option maxHeartbeats 2000000 in
theorem oneR_any (x y : Pas) (vx vy : Value) (w : World) (h1 : SlIs tSrc (· < w.heap.size) w vx x.src) (h2 : SlIs tSrc (· < w.heap.size) w vy y.src) (hx : PasOk x) (hy : PasOk y) : Calls Tryd.prog 30 #[.agg (pCells x vx).toArray, .agg (pCells y vy).toArray] w fun e w' => e = .returned (.bool (decide (x = y))) ∧ GrB w w' := by
  obtain ⟨A, hA⟩ : ∃ A, (pCells x vx).toArray = A := ⟨_, rfl⟩
  obtain ⟨B, hB⟩ : ∃ A, (pCells y vy).toArray = A := ⟨_, rfl⟩
  have hb : GrB w ((w.alloc (.cells A 24)).alloc (.cells B 24)) := ((GrB.refl w).alloc _).alloc _
  have n0 : PBox ((w.alloc (.cells A 24)).alloc (.cells B 24)) w.heap.size A := alloc2_0 w _ _
  have n1 : PBox ((w.alloc (.cells A 24)).alloc (.cells B 24)) (w.heap.size + 1) B := alloc2_1 w _ _
  have ld1 := n0.load hA
  have ld2 := n1.load hB
  have HC := Lib.hid (compareR_any x y vx vy _ (SlIs.step h1 hb.below) (SlIs.step h2 hb.below) hx hy)
  rw [hA, hB] at HC ⊢
  obtain ⟨c, hc⟩ : ∃ c, pasC x y = c := ⟨_, rfl⟩
  have hcz : decide (x = y) = (c == 0) := by
    rw [← hc, Bool.eq_iff_iff, decide_eq_true_eq, beq_iff_eq]
    exact pasC_iff.symm
  rw [hc] at HC
  have HCZ := Lib.hid hcz
  have HB := Lib.hid hb
  clear hA hB h1 h2 hx hy hb n0 n1 hc hcz
  go_enter Tryd.func30, Tryd.ntmps30
  go_wp2_with (first
    | (refine wpList_loadA _ rfl 24 rfl Tryd.isAgg24 Tryd.sizeOf24 rfl (by with_reducible assumption) ?_)
    | (go_at_call 31
       with_reducible refine HC.out.mono ?_
       rintro e w1 ⟨rfl, hg1⟩
       have HG1 := Lib.hid hg1
       clear hg1))
  go_ret
  exact ⟨ret_bool HCZ.out, HB.out.trans HG1.out⟩
set_option maxRecDepth 100000 in
set_option maxHeartbeats 4000000 in
theorem same_any (l1 l2 : List Pas) (v1 v2 : Value) (w : World) (h1 : SlIs (tPas eS) (· < w.heap.size) w v1 l1) (h2 : SlIs (tPas eS) (· < w.heap.size) w v2 l2) :
    Calls Tryd.prog 20 #[v1, v2] w fun e w' => e = .returned (.bool (decide (l1 = l2))) ∧ GrB w w' := by
  obtain ⟨ao, cp, b, o, rfl, q1, q2, ho⟩ := pas_row h1
  obtain ⟨ao2, cp2, b2, o2, rfl, q3, q4, ho2⟩ := pas_row h2
  unfold maxLen at q2 q4
  have HO := Lib.hid ho
  have HO2 := Lib.hid ho2
  clear h1 h2 ho ho2
  go_enter Tryd.func20, Tryd.ntmps20
  by_cases hlen : (l1.length : Int) = (l2.length : Int)
  · have hle : l1.length = l2.length := by omega
    have HLE := Lib.hid hle
    clear hle
    go_wp2
    go_loopg [5] l1.length (fun gx i wr => ∃ k : Nat, k + gx = l1.length ∧ i = .int .i64 k ∧ Hid (l1.take k = l2.take k) ∧ GrB w wr)
    case atStart => exact ⟨0, by omega, rfl, Lib.hid (by simp), GrB.refl _⟩
    case round =>
      obtain ⟨k, hk, rfl, HT, hb⟩ := hrel
      by_cases hlt : k < l1.length
      · have hlt2 : k < l2.length := by have := HLE.out; omega
        obtain ⟨rfl, -, hbk, hok, a, n, c, hsl, hc⟩ := HO.out wr (.of_below hb.below) k hlt
        obtain ⟨rfl, -, hbk2, hok2, a2, n2, c2, hsl2, hc2⟩ := HO2.out wr (.of_below hb.below) k hlt2
        have HB := Lib.hid hb
        have k0 : (0 : Int) ≤ (k : Int) := by omega
        have k1 : (k : Int) < (l1.length : Int) := by omega
        have k2 : (k : Int) < (l2.length : Int) := by omega
        have HT1 := Lib.hid (show l1.take (k + 1) = l1.take k ++ [l1[k]] from List.take_succ_eq_append_getElem hlt)
        have HT2 := Lib.hid (show l2.take (k + 1) = l2.take k ++ [l2[k]] from List.take_succ_eq_append_getElem hlt2)
        have HG1 := Lib.hid (show l1[k]? = some l1[k] by simp [hlt])
        have HG2 := Lib.hid (show l2[k]? = some l2[k] by simp [hlt2])
        generalize l1[k] = x at HT1 HG1 hc hok hsl
        generalize l2[k] = y at HT2 HG2 hc2 hok2 hsl2
        obtain ⟨A, hA⟩ : ∃ A, (pCells x (.slice a n c)).toArray = A := ⟨_, rfl⟩
        obtain ⟨B, hB⟩ : ∃ B, (pCells y (.slice a2 n2 c2)).toArray = B := ⟨_, rfl⟩
        have LD1 := Lib.hid (show ∀ n os, Sem.run Tryd.prog (loadCellsFrom ⟨b, o + k * 8, none⟩ 0 8 #[]) (grow (wr.drewN n) os) = .ok A (grow (wr.drewN n) os) from fun n os => by
          rw [← hA]
          exact load_pas _ fun j hj => ((GrB.below ⟨n, os, rfl⟩).cell (p := ⟨b, o + k * 8 + j, none⟩) (Nat.lt_of_lt_of_le hbk hb.below.size)).trans (hc j hj))
        have LD2 := Lib.hid (show ∀ n os, Sem.run Tryd.prog (loadCellsFrom ⟨b2, o2 + k * 8, none⟩ 0 8 #[]) (grow (wr.drewN n) os) = .ok B (grow (wr.drewN n) os) from fun n os => by
          rw [← hB]
          exact load_pas _ fun j hj => ((GrB.below ⟨n, os, rfl⟩).cell (p := ⟨b2, o2 + k * 8 + j, none⟩) (Nat.lt_of_lt_of_le hbk2 hb.below.size)).trans (hc2 j hj))
        obtain ⟨cl, hcl⟩ : ∃ c, decide (x = y) = c := ⟨_, rfl⟩
        have HON := Lib.hid (show ∀ n os, Calls Tryd.prog 30 #[.agg A, .agg B] (grow (wr.drewN n) os) fun e w' => e = .returned (.bool cl) ∧ ∃ q os', w' = grow ((grow (wr.drewN n) os).drewN q) os' from fun n os => by
          rw [← hA, ← hB, ← hcl]
          exact oneR_any x y _ _ _ (sl_gr hsl hb ⟨n, os, rfl⟩) (sl_gr hsl2 hb ⟨n, os, rfl⟩) hok hok2)
        have HCL := Lib.hid hcl
        clear hA hB hc hc2 hok hok2 hb hbk hbk2 hcl hsl hsl2
        go_upto_region 6 with (fail)
        refine wp_region_quiet_grown (by kernel_rfl) (by kernel_rfl) ?_
        (iterate 3 (quiet_step (fail)))
        refine wpQuiet_step (fun K hK => ?_)
        rw [if_pos (show _ = true by kernel_rfl)]
        refine quiet_loadA (A := A) rfl Tryd.isAgg24 Tryd.sizeOf24 rfl (fun w' hw' => ?_) (hK _ ?_)
        · obtain ⟨⟨nq, osq⟩, rfl⟩ := hw'
          exact LD1.out nq osq
        clear hK K
        (iterate 3 (quiet_step (fail)))
        refine wpQuiet_step (fun K hK => ?_)
        rw [if_pos (show _ = true by kernel_rfl)]
        refine quiet_loadA (A := B) rfl Tryd.isAgg24 Tryd.sizeOf24 rfl (fun w' hw' => ?_) (hK _ ?_)
        · obtain ⟨⟨nq, osq⟩, rfl⟩ := hw'
          exact LD2.out nq osq
        clear hK K
        quiet_step ((go_at_call 30; with_reducible exact Calls.grown_of (HON.out _ _)))
        quiet_step (fail)
        refine wpQuiet_nil ?_
        intro _ hw'
        obtain ⟨⟨nq, osq⟩, hw''⟩ := hw'
        subst hw''
        have HGQ := Lib.hid (show GrB wr (grow (wr.drewN nq) osq) from ⟨nq, osq, rfl⟩)
        clear LD1 LD2 HON
        generalize grow (wr.drewN nq) osq = wq at HGQ ⊢
        cases cl with
        | true =>
          go_wp2
          go_roundg (l1.length - (k + 1))
          case measure => omega
          case rel => exact ⟨k + 1, by omega, by go_num, Lib.hid (by rw [HT1.out, HT2.out, HT.out, of_decide_eq_true HCL.out]), HB.out.trans HGQ.out⟩
        | false =>
          go_wp2
          go_ret
          refine ⟨ret_bool ?_, HB.out.trans HGQ.out⟩
          rw [decide_eq_false_iff_not]
          rintro rfl
          have := HG1.out.symm.trans HG2.out
          exact of_decide_eq_false HCL.out (Option.some.inj this)
      · obtain rfl : k = l1.length := by omega
        have hkl : ¬ (l1.length : Int) < (l1.length : Int) := by omega
        have HB := Lib.hid hb
        clear hlt hk hb
        go_wp2
        go_ret
        refine ⟨ret_bool ?_, HB.out⟩
        have h := HT.out
        rw [List.take_length, HLE.out, List.take_length] at h
        simp [h]
  · go_wp2
    go_ret
    refine ⟨ret_bool ?_, GrB.refl _⟩
    rw [decide_eq_false_iff_not]
    rintro rfl
    exact hlen rfl
end Go.Proofs.YtbjhemglecllmaaDoor
