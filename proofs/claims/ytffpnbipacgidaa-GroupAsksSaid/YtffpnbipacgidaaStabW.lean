/-
  slices.SortStableFunc at structs of k cells: the walks of swapRange and rotate, from a world of the sort's to a world of the sort's.
-/
import Derived.Test.YtffpnbipacgidaaProg
import Derived.Test.YtffpnbipacgidaaStabP
import Derived.Shelf.SlSortCmp.KitK
import Derived.Deep.LoopGhost
namespace Go.Proofs.Ytffpnbipacgidaa
open Go.RowKit Go.Lib Go.Sort Go.Tw.Stab
/-- what the walks ask of the program: the bodies, their types; the element's size a variable -/
structure StabL (P : Program) (k : Nat) : Prop where
  mixed : P.follows .mixedOrders = true
  fSR : P.funcs[88]? = some Try.f88
  fRo : P.funcs[86]? = some Try.f86
  fSM : P.funcs[77]? = some Try.f77
  fSt : P.funcs[56]? = some Try.f56
  fSS : P.funcs[46]? = some Try.f46
  eSR : ∀ args w, (callFunc 88 args).run P w = .ok (.enter 88 args) w
  eRo : ∀ args w, (callFunc 86 args).run P w = .ok (.enter 86 args) w
  eSM : ∀ args w, (callFunc 77 args).run P w = .ok (.enter 77 args) w
  eSt : ∀ args w, (callFunc 56 args).run P w = .ok (.enter 56 args) w
  eIn : ∀ args w, (callFunc 76 args).run P w = .ok (.enter 76 args) w
  ti : P.underlying 3 = some (TypeDesc.int IntKind.i64)
  ai : ∀ w, (isAgg 3).run P w = .ok false w
  zi : ∀ w, (Go.sizeOf 3).run P w = .ok 1 w
  vi : ∀ w, (zeroValue 3).run P w = .ok (Value.int IntKind.i64 0) w
  tu : P.underlying 69 = some (TypeDesc.int IntKind.u64)
  au : ∀ w, (isAgg 69).run P w = .ok false w
  zu : ∀ w, (Go.sizeOf 69).run P w = .ok 1 w
  tb : P.underlying 4 = some (TypeDesc.bool)
  ab : ∀ w, (isAgg 4).run P w = .ok false w
  zb : ∀ w, (Go.sizeOf 4).run P w = .ok 1 w
  vb : ∀ w, (zeroValue 4).run P w = .ok (Value.bool false) w
  ts : P.underlying 22 = some (TypeDesc.slice 31)
  asl : ∀ w, (isAgg 22).run P w = .ok false w
  zs : ∀ w, (Go.sizeOf 22).run P w = .ok 1 w
  vs : ∀ w, (zeroValue 22).run P w = .ok (Value.slice none 0 0) w
  af : ∀ w, (isAgg 65).run P w = .ok false w
  zf : ∀ w, (Go.sizeOf 65).run P w = .ok 1 w
  aE : ∀ w, (isAgg 31).run P w = .ok true w
  zE : ∀ w, (Go.sizeOf 31).run P w = .ok k w
section
variable {P : Program} {α : Type} [Inhabited α]
set_option maxHeartbeats 4000000 in
set_option maxRecDepth 1000000 in
theorem swapRange_any {k : Nat} (L : StabL P k) (enc : α → List Value) (g : Nat) (cb : Array Value) (blk off cap a b n : Nat) (d0 d : Array α) (w0 w : World)
    (R : RowK enc k w0 blk off d0) (hs : d0.size = d.size) (S : SWK enc k w0 blk off d w) (hab : a + n ≤ b) (hb : b + n ≤ d.size) (hsz : d.size < 4611686018427387904) :
    Calls P 88 #[.slice (some ⟨blk, off, none⟩) d.size cap, .int .i64 a, .int .i64 b, .int .i64 n, .func (.func g) #[] cb] w fun e w' =>
      e = .returned (.tuple #[]) ∧ ∃ d', PermIn a (b + n) d d' ∧ Swapped d a b n d' ∧ SWK enc k w0 blk off d' w' := by
  have mixed := L.mixed
  have ti := L.ti
  have ai := L.ai
  have zi := L.zi
  have vi := L.vi
  have tu := L.tu
  have au := L.au
  have zu := L.zu
  have tb := L.tb
  have ab := L.ab
  have zb := L.zb
  have vb := L.vb
  have ts := L.ts
  have asl := L.asl
  have zs := L.zs
  have vs := L.vs
  have af := L.af
  have zf := L.zf
  have aE := L.aE
  have zE := L.zE
  have FG := L.fSR
  have S0 : Aside (SWK enc k w0 blk off d w) := S
  clear S
  go_enter FG, Try.ntmps88
  go_wp2
  go_loopg [10] n (fun gx si wr => ∃ (i : Nat) (dk : Array α), si = .int .i64 i ∧ i + gx = n ∧ Aside (SWK enc k w0 blk off dk wr) ∧ Aside (PermIn a (b + n) d dk ∧ Swapped d a b i dk) ∧ dk.size = d.size)
  case atStart => exact ⟨0, d, rfl, by omega, S0, ⟨permIn_refl _ _ _, swapped_zero _ _ _⟩, rfl⟩
  case round =>
    clear S0
    obtain ⟨i, dk, rfl, hi, S1, HP, hds⟩ := hrel
    by_cases hlt : i < n
    · have hlt' : (i : Int) < (n : Int) := by omega
      go_wp2_with fail
      have ea : ((a : Int) + (i : Int)).toNat = a + i := by omega
      have pa : (0 : Int) ≤ (a : Int) + (i : Int) := by omega
      have ba : (a : Int) + (i : Int) < (d.size : Int) := by omega
      have ra : IntKind.i64.wrap ((a : Int) + (i : Int)) = (a : Int) + (i : Int) := by rw [IntKind.wrap_i64]; omega
      have ec : ((b : Int) + (i : Int)).toNat = b + i := by omega
      have pc : (0 : Int) ≤ (b : Int) + (i : Int) := by omega
      have bc : (b : Int) + (i : Int) < (d.size : Int) := by omega
      have rc : IntKind.i64.wrap ((b : Int) + (i : Int)) = (b : Int) + (i : Int) := by rw [IntKind.wrap_i64]; omega
      have S2 : Aside (SWK enc k w0 blk off (swp dk (a + i) (b + i)) ((wr.drew.setCells blk (off + (a + i) * k) (enc dk[b + i]!)).setCells blk (off + (b + i) * k) (enc dk[a + i]!))) := S1.out.swapped R (a + i) (b + i) (by omega) (by omega)
      have la := S1.out.ld1 R (by omega) P (a + i) (by omega)
      have lb := S1.out.ld1 R (by omega) P (b + i) (by omega)
      have sa := S1.out.st1 R (by omega) P (a + i) (by omega) dk[b + i]!
      have sb := S1.out.st2 R (by omega) P (a + i) (b + i) (by omega) (by omega) dk[b + i]! dk[a + i]!
      have na : (enc dk[a + i]!).length = k := R.hk _
      have nb : (enc dk[b + i]!).length = k := R.hk _
      generalize enc dk[a + i]! = cI at S2 la sb na
      generalize enc dk[b + i]! = cJ at S2 lb sa sb nb
      clear S1
      go_wp2_with fail
      go_big_region_o
      clear la lb sa sb ea pa ba ra ec pc bc rc na nb
      generalize (wr.drew.setCells blk (off + (a + i) * k) cJ).setCells blk (off + (b + i) * k) cI = w2 at S2 ⊢
      go_wp2
      go_roundg (n - (i + 1))
      case measure => omega
      case rel => exact ⟨i + 1, _, by go_num, by omega, S2, ⟨permIn_trans _ _ _ _ _ HP.out.1 (swp_permIn _ _ _ _ _ (by omega) (by omega) (by omega) (by omega) (by omega)), swapped_succ HP.out.2 hab hlt hb hds⟩, by rw [size_swp]; exact hds⟩
    · have hlt' : ¬ (i : Int) < (n : Int) := by omega
      obtain rfl : i = n := by omega
      go_wp2
      go_end0
      exact ⟨rfl, dk, HP.out.1, HP.out.2, S1.out⟩
end
end Go.Proofs.Ytffpnbipacgidaa
