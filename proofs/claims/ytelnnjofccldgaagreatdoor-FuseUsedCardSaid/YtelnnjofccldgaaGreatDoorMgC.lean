/-
  slices.SortStableFunc at structs of k cells: the walks of swapRange and rotate, from a world of the sort's to a world of the sort's.
-/
import Derived.Test.YtelnnjofccldgaaGreatDoorProg
import Derived.Test.YtelnnjofccldgaaGreatDoorStabP
import Derived.Shelf.SlSortCmp.KitK
import Derived.Deep.LoopGhost
namespace Go.Proofs.YtelnnjofccldgaaGreatDoor
open Go.RowKit Go.Lib Go.Sort Go.Tw.Stab
/-- what the walks ask of the program: the bodies, their types; the element's size a variable -/
structure StabL (P : Program) (k : Nat) : Prop where
  mixed : P.follows .mixedOrders = true
  fSR : P.funcs[143]? = some Tryz.f143
  fRo : P.funcs[132]? = some Tryz.f132
  fSM : P.funcs[114]? = some Tryz.f114
  fSt : P.funcs[89]? = some Tryz.f89
  fSS : P.funcs[63]? = some Tryz.f63
  eSR : ∀ args w, (callFunc 143 args).run P w = .ok (.enter 143 args) w
  eRo : ∀ args w, (callFunc 132 args).run P w = .ok (.enter 132 args) w
  eSM : ∀ args w, (callFunc 114 args).run P w = .ok (.enter 114 args) w
  eSt : ∀ args w, (callFunc 89 args).run P w = .ok (.enter 89 args) w
  eIn : ∀ args w, (callFunc 113 args).run P w = .ok (.enter 113 args) w
  ti : P.underlying 3 = some (TypeDesc.int IntKind.i64)
  ai : ∀ w, (isAgg 3).run P w = .ok false w
  zi : ∀ w, (Go.sizeOf 3).run P w = .ok 1 w
  vi : ∀ w, (zeroValue 3).run P w = .ok (Value.int IntKind.i64 0) w
  tu : P.underlying 112 = some (TypeDesc.int IntKind.u64)
  au : ∀ w, (isAgg 112).run P w = .ok false w
  zu : ∀ w, (Go.sizeOf 112).run P w = .ok 1 w
  tb : P.underlying 4 = some (TypeDesc.bool)
  ab : ∀ w, (isAgg 4).run P w = .ok false w
  zb : ∀ w, (Go.sizeOf 4).run P w = .ok 1 w
  vb : ∀ w, (zeroValue 4).run P w = .ok (Value.bool false) w
  ts : P.underlying 65 = some (TypeDesc.slice 63)
  asl : ∀ w, (isAgg 65).run P w = .ok false w
  zs : ∀ w, (Go.sizeOf 65).run P w = .ok 1 w
  vs : ∀ w, (zeroValue 65).run P w = .ok (Value.slice none 0 0) w
  af : ∀ w, (isAgg 157).run P w = .ok false w
  zf : ∀ w, (Go.sizeOf 157).run P w = .ok 1 w
  aE : ∀ w, (isAgg 63).run P w = .ok true w
  zE : ∀ w, (Go.sizeOf 63).run P w = .ok k w
section
variable {P : Program} {α : Type} [Inhabited α]
set_option maxHeartbeats 4000000 in
set_option maxRecDepth 1000000 in
theorem swapRange_any {k : Nat} (L : StabL P k) (enc : α → List Value) (g : Nat) (cb : Array Value) (blk off cap a b n : Nat) (d0 d : Array α) (w0 w : World)
    (R : RowK enc k w0 blk off d0) (hs : d0.size = d.size) (S : SWK enc k w0 blk off d w) (hab : a + n ≤ b) (hb : b + n ≤ d.size) (hsz : d.size < 4611686018427387904) :
    Calls P 143 #[.slice (some ⟨blk, off, none⟩) d.size cap, .int .i64 a, .int .i64 b, .int .i64 n, .func (.func g) #[] cb] w fun e w' =>
      e = .returned (.tuple #[]) ∧ ∃ d', PermIn a (b + n) d d' ∧ Swapped d a b n d' ∧ SWK enc k w0 blk off d' w' := by
  have mixed := L.mixed
  have ti := L.ti
  have ai := L.ai
  have zi := L.zi
  have vi := L.vi
  have tu := L.tu
  have au := L.au
  have zu := L.zu
  have tb := L.tb
  have ab := L.ab
  have zb := L.zb
  have vb := L.vb
  have ts := L.ts
  have asl := L.asl
  have zs := L.zs
  have vs := L.vs
  have af := L.af
  have zf := L.zf
  have aE := L.aE
  have zE := L.zE
  have FG := L.fSR
  have S0 : Aside (SWK enc k w0 blk off d w) := S
  clear S
  go_enter FG, Tryz.ntmps143
  go_wp2
  go_loopg [10] n (fun gx si wr => ∃ (i : Nat) (dk : Array α), si = .int .i64 i ∧ i + gx = n ∧ Aside (SWK enc k w0 blk off dk wr) ∧ Aside (PermIn a (b + n) d dk ∧ Swapped d a b i dk) ∧ dk.size = d.size)
  case atStart => exact ⟨0, d, rfl, by omega, S0, ⟨permIn_refl _ _ _, swapped_zero _ _ _⟩, rfl⟩
  case round =>
    clear S0
    obtain ⟨i, dk, rfl, hi, S1, HP, hds⟩ := hrel
    by_cases hlt : i < n
    · have hlt' : (i : Int) < (n : Int) := by omega
      go_wp2_with fail
      have ea : ((a : Int) + (i : Int)).toNat = a + i := by omega
      have pa : (0 : Int) ≤ (a : Int) + (i : Int) := by omega
      have ba : (a : Int) + (i : Int) < (d.size : Int) := by omega
      have ra : IntKind.i64.wrap ((a : Int) + (i : Int)) = (a : Int) + (i : Int) := by rw [IntKind.wrap_i64]; omega
      have ec : ((b : Int) + (i : Int)).toNat = b + i := by omega
      have pc : (0 : Int) ≤ (b : Int) + (i : Int) := by omega
      have bc : (b : Int) + (i : Int) < (d.size : Int) := by omega
      have rc : IntKind.i64.wrap ((b : Int) + (i : Int)) = (b : Int) + (i : Int) := by rw [IntKind.wrap_i64]; omega
      have S2 : Aside (SWK enc k w0 blk off (swp dk (a + i) (b + i)) ((wr.drew.setCells blk (off + (a + i) * k) (enc dk[b + i]!)).setCells blk (off + (b + i) * k) (enc dk[a + i]!))) := S1.out.swapped R (a + i) (b + i) (by omega) (by omega)
      have la := S1.out.ld1 R (by omega) P (a + i) (by omega)
      have lb := S1.out.ld1 R (by omega) P (b + i) (by omega)
      have sa := S1.out.st1 R (by omega) P (a + i) (by omega) dk[b + i]!
      have sb := S1.out.st2 R (by omega) P (a + i) (b + i) (by omega) (by omega) dk[b + i]! dk[a + i]!
      have na : (enc dk[a + i]!).length = k := R.hk _
      have nb : (enc dk[b + i]!).length = k := R.hk _
      generalize enc dk[a + i]! = cI at S2 la sb na
      generalize enc dk[b + i]! = cJ at S2 lb sa sb nb
      clear S1
      go_wp2_with fail
      go_big_region_o
      clear la lb sa sb ea pa ba ra ec pc bc rc na nb
      generalize (wr.drew.setCells blk (off + (a + i) * k) cJ).setCells blk (off + (b + i) * k) cI = w2 at S2 ⊢
      go_wp2
      go_roundg (n - (i + 1))
      case measure => omega
      case rel => exact ⟨i + 1, _, by go_num, by omega, S2, ⟨permIn_trans _ _ _ _ _ HP.out.1 (swp_permIn _ _ _ _ _ (by omega) (by omega) (by omega) (by omega) (by omega)), swapped_succ HP.out.2 hab hlt hb hds⟩, by rw [size_swp]; exact hds⟩
    · have hlt' : ¬ (i : Int) < (n : Int) := by omega
      obtain rfl : i = n := by omega
      go_wp2
      go_end0
      exact ⟨rfl, dk, HP.out.1, HP.out.2, S1.out⟩
end
end Go.Proofs.YtelnnjofccldgaaGreatDoor
/-
  slices.SortStableFunc at structs of k cells: the walk of rotate.
-/
namespace Go.Proofs.YtelnnjofccldgaaGreatDoor
open Go.RowKit Go.Lib Go.Sort Go.Tw.Stab
section
variable {P : Program} {α : Type} [Inhabited α]
set_option maxHeartbeats 4000000 in
set_option maxRecDepth 1000000 in
theorem rotate_any {k : Nat} (L : StabL P k) (enc : α → List Value) (g : Nat) (cb : Array Value) (blk off cap a m b : Nat) (d0 d : Array α) (w0 w : World)
    (R : RowK enc k w0 blk off d0) (hs : d0.size = d.size) (S : SWK enc k w0 blk off d w) (ham : a < m) (hmb : m < b) (hb : b ≤ d.size) (hsz : d.size < 4611686018427387904) :
    Calls P 132 #[.slice (some ⟨blk, off, none⟩) d.size cap, .int .i64 a, .int .i64 m, .int .i64 b, .func (.func g) #[] cb] w fun e w' =>
      e = .returned (.tuple #[]) ∧ ∃ d', PermIn a b d d' ∧ Rot d a m b d' ∧ SWK enc k w0 blk off d' w' := by
  have mixed := L.mixed
  have ti := L.ti
  have ai := L.ai
  have zi := L.zi
  have vi := L.vi
  have tu := L.tu
  have au := L.au
  have zu := L.zu
  have tb := L.tb
  have ab := L.ab
  have zb := L.zb
  have vb := L.vb
  have ts := L.ts
  have asl := L.asl
  have zs := L.zs
  have vs := L.vs
  have af := L.af
  have zf := L.zf
  have aE := L.aE
  have zE := L.zE
  have FG := L.fRo
  have e88 := L.eSR
  have S0 : Aside (SWK enc k w0 blk off d w) := S
  clear S
  go_enter FG, Tryz.ntmps132
  go_wp2
  go_loopg [10, 11] (b - a) (fun gx si sj wr => ∃ (i j : Nat) (dk : Array α), si = .int .i64 i ∧ sj = .int .i64 j ∧ 0 < i ∧ 0 < j ∧ a + i ≤ m ∧ m + j ≤ b ∧ i + j ≤ gx ∧ Aside (SWK enc k w0 blk off dk wr) ∧ Aside (PermIn a b d dk ∧ ∀ d', Rot dk (m - i) m (m + j) d' → Rot d a m b d') ∧ dk.size = d.size)
  case atStart => exact ⟨m - a, b - m, d, by go_num, by go_num, by omega, by omega, by omega, by omega, by omega, S0, ⟨permIn_refl _ _ _, fun d' h => by rwa [show m - (m - a) = a by omega, show m + (b - m) = b by omega] at h⟩, rfl⟩
  case round =>
    clear S0
    obtain ⟨i, j, dk, rfl, rfl, hi, hj, hia, hjb, hg, S1, HP, hds⟩ := hrel
    have emi : ((m - i : Nat) : Int) = (m : Int) - (i : Int) := by omega
    by_cases hij : i = j
    · subst hij
      have hne : ((i : Int) != (i : Int)) = false := by simp
      have hcall := swapRange_any L enc g cb blk off cap (m - i) m i d0 dk w0 wr R (by omega) S1.out (by omega) (by omega) (by omega)
      rw [emi, hds] at hcall
      clear S1
      go_wp2_with (go_at_fn 143; refine hcall.mono ?_; rintro e w1 ⟨rfl, d1, q1, q2, q3⟩)
      go_end0
      exact ⟨rfl, d1, permIn_trans _ _ _ _ _ HP.out.1 (permIn_mono _ _ _ _ _ _ (by omega) (by omega) (by omega) q1), rot_eq HP.out.2 (by omega) q2, q3⟩
    · have hne : ((i : Int) != (j : Int)) = true := by simp; omega
      by_cases hgt : j < i
      · have hgt' : (j : Int) < (i : Int) := by omega
        have hcall := swapRange_any L enc g cb blk off cap (m - i) m j d0 dk w0 wr R (by omega) S1.out (by omega) (by omega) (by omega)
        rw [emi, hds] at hcall
        clear S1
        go_wp2_with (go_at_fn 143; refine hcall.mono ?_; rintro e w1 ⟨rfl, d1, q1, q2, q3⟩)
        go_roundg (i - j + j)
        case measure => omega
        case rel => exact ⟨i - j, j, d1, by go_num, rfl, by omega, hj, by omega, hjb, by omega, q3, ⟨permIn_trans _ _ _ _ _ HP.out.1 (permIn_mono _ _ _ _ _ _ (by omega) (by omega) (by omega) q1), fun d' h => rot_gt HP.out.2 hj hgt (by omega) q2 h⟩, by rw [q1.1]; exact hds⟩
      · have hgt' : ¬ (j : Int) < (i : Int) := by omega
        have emj : ((m + j - i : Nat) : Int) = (m : Int) + (j : Int) - (i : Int) := by omega
        have hcall := swapRange_any L enc g cb blk off cap (m - i) (m + j - i) i d0 dk w0 wr R (by omega) S1.out (by omega) (by omega) (by omega)
        rw [emi, emj, hds] at hcall
        clear S1
        go_wp2_with (go_at_fn 143; refine hcall.mono ?_; rintro e w1 ⟨rfl, d1, q1, q2, q3⟩)
        go_roundg (i + (j - i))
        case measure => omega
        case rel => exact ⟨i, j - i, d1, rfl, by go_num, hi, by omega, hia, by omega, by omega, q3, ⟨permIn_trans _ _ _ _ _ HP.out.1 (permIn_mono _ _ _ _ _ _ (by omega) (by omega) (by omega) q1), fun d' h => rot_lt HP.out.2 hi (by omega) (by omega) q2 h⟩, by rw [q1.1]; exact hds⟩
end
end Go.Proofs.YtelnnjofccldgaaGreatDoor
