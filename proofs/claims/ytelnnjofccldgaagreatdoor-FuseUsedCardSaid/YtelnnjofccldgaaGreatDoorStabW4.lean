/-
  slices.SortStableFunc at structs of k cells: the walks of stable and SortStableFunc.
-/
import Derived.Test.YtelnnjofccldgaaGreatDoorStabW3
namespace Go.Proofs.YtelnnjofccldgaaGreatDoor
open Go.RowKit Go.Lib Go.Sort Go.Tw.Stab
section
variable {P : Program} {α : Type} [Inhabited α]
/-- what is asked of the insertion sort -/
def InsOk (P : Program) (enc : α → List Value) (k : Nat) (cf : α → α → Int) (g : Nat) (cb : Array Value) (blk off cap n : Nat) (w0 : World) : Prop :=
  ∀ (a b : Nat) (d : Array α) (w : World), d.size = n → SWK enc k w0 blk off d w → a ≤ b → b ≤ n →
    Calls P 113 #[.slice (some ⟨blk, off, none⟩) n cap, .int .i64 a, .int .i64 b, .func (.func g) #[] cb] w fun e w' => e = .returned (.tuple #[]) ∧ ∃ d', PermIn a b d d' ∧ SortedIn (ltOf cf) a b d' ∧ SWK enc k w0 blk off d' w'
set_option maxHeartbeats 4000000 in
set_option maxRecDepth 1000000 in
theorem stable_any {k : Nat} (L : StabL P k) (enc : α → List Value) (cf : α → α → Int) (hO : SWO (ltOf cf)) (g : Nat) (cb : Array Value) (blk off cap : Nat) (d : Array α) (w : World)
    (eg : ∀ args w, (callFunc g args).run P w = .ok (.enter g args) w) (hcmp : CmpLays P g cb enc k cf blk off d.size w) (R : RowK enc k w blk off d) (hI : InsOk P enc k cf g cb blk off cap d.size w) (h60 : d.size < 60) :
    Calls P 89 #[.slice (some ⟨blk, off, none⟩) d.size cap, .int .i64 d.size, .func (.func g) #[] cb] w fun e w' =>
      e = .returned (.tuple #[]) ∧ ∃ d', PermIn 0 d.size d d' ∧ SortedIn (ltOf cf) 0 d.size d' ∧ SWK enc k w blk off d' w' := by
  have mixed := L.mixed
  have ti := L.ti
  have ai := L.ai
  have zi := L.zi
  have vi := L.vi
  have tu := L.tu
  have au := L.au
  have zu := L.zu
  have tb := L.tb
  have ab := L.ab
  have zb := L.zb
  have vb := L.vb
  have ts := L.ts
  have asl := L.asl
  have zs := L.zs
  have vs := L.vs
  have af := L.af
  have zf := L.zf
  have aE := L.aE
  have zE := L.zE
  have FG := L.fSt
  have e77 := L.eSM
  have e76 := L.eIn
  have S0 : Aside (SWK enc k w blk off d w) := SWK.start R.hH
  have HI : Aside _ := hI
  have HS : Aside _ := symMerge_any L enc cf hO g cb blk off cap d w eg hcmp R
  clear hcmp hI
  obtain ⟨n, hn⟩ : ∃ n, d.size = n := ⟨_, rfl⟩
  rw [hn] at h60 HI ⊢
  have HN := Lib.hid hn
  clear hn
  go_enter FG, Tryz.ntmps89
  go_wp2
  go_loopg [7, 8] 4 (fun gx sa sb wr => ∃ (x : Nat) (dk : Array α), sa = .int .i64 ((x : Int) * 20) ∧ sb = .int .i64 ((x : Int) * 20 + 20) ∧ x + gx = 4 ∧ x * 20 ≤ n ∧ dk.size = n ∧ Aside (SWK enc k w blk off dk wr) ∧ Aside (PermIn 0 n d dk ∧ ∀ y, y < x → SortedIn (ltOf cf) (y * 20) (y * 20 + 20) dk))
  case atStart => exact ⟨0, d, rfl, rfl, rfl, by omega, HN.out, S0, permIn_refl _ _ _, fun y h => by omega⟩
  case round =>
    clear S0
    obtain ⟨x, dk, rfl, rfl, hx, hxn, hds, S1, HP⟩ := hrel
    by_cases hlt : x * 20 + 20 ≤ n
    · have hlt' : ((x : Int) * 20 + 20) ≤ (n : Int) := by omega
      have hcall := HI.out (x * 20) (x * 20 + 20) dk wr hds S1.out (by omega) hlt
      simp only [Int.natCast_mul, Int.natCast_add, Int.cast_ofNat_Int] at hcall
      clear S1
      go_wp2_with (go_at_fn 113; refine hcall.mono ?_; rintro e w1 ⟨rfl, d1, q1, q2, q3⟩)
      go_roundg (4 - (x + 1))
      case measure => omega
      case rel => exact ⟨x + 1, d1, by go_num, by go_num, by omega, by omega, q1.1.trans hds, q3, permIn_trans _ _ _ _ _ HP.out.1 (permIn_mono _ _ _ _ 0 n (by omega) (by omega) (by omega) q1), fun y hy => by
        by_cases e : y = x
        · subst e; exact q2
        · exact sorted_congr (HP.out.2 y (by omega)) fun i h1 h2 => q1.2.1 i (.inl (by omega))⟩
    · have hlt' : ¬ ((x : Int) * 20 + 20) ≤ (n : Int) := by omega
      have hcall := HI.out (x * 20) n dk wr hds S1.out hxn (Nat.le_refl _)
      simp only [Int.natCast_mul, Int.cast_ofNat_Int] at hcall
      clear S1
      go_wp2_with (go_at_fn 113; refine hcall.mono ?_; rintro e w1 ⟨rfl, d1, q1, q2, q3⟩)
      have HA : Aside (PermIn 0 n d d1) := permIn_trans _ _ _ _ _ HP.out.1 (permIn_mono _ _ _ _ 0 n (by omega) (by omega) (by omega) q1)
      have HB : Aside (SortedIn (ltOf cf) 0 (min 20 n) d1 ∧ SortedIn (ltOf cf) 20 (min 40 n) d1 ∧ SortedIn (ltOf cf) 40 n d1) := by
        have hx3 : x = 0 ∨ x = 1 ∨ x = 2 := by omega
        have h0 : 0 < x → SortedIn (ltOf cf) 0 20 d1 := fun h => sorted_congr (HP.out.2 0 h) fun i h1 h2 => q1.2.1 i (.inl (by omega))
        have h1 : 1 < x → SortedIn (ltOf cf) 20 40 d1 := fun h => sorted_congr (HP.out.2 1 h) fun i h1 h2 => q1.2.1 i (.inl (by omega))
        rcases hx3 with rfl | rfl | rfl
        · exact ⟨sorted_sub q2 (by omega) (by omega), fun i j _ _ _ => by omega, fun i j _ _ _ => by omega⟩
        · exact ⟨sorted_sub (h0 (by omega)) (by omega) (by omega), sorted_sub q2 (by omega) (by omega), fun i j _ _ _ => by omega⟩
        · exact ⟨sorted_sub (h0 (by omega)) (by omega) (by omega), sorted_sub (h1 (by omega)) (by omega) (by omega), q2⟩
      have hd1 : d1.size = n := q1.1.trans hds
      have S1 : Aside (SWK enc k w blk off d1 w1) := q3
      clear q1 q2 q3 HP hcall hlt hlt' hx hxn hds
      go_loopg [6, 7, 8, 9] 2 (fun gx sc _ _ _ wx => ∃ (bs : Nat) (dk : Array α), sc = .int .i64 bs ∧ dk.size = n ∧ Aside (SWK enc k w blk off dk wx) ∧ Aside (PermIn 0 n d dk) ∧ Aside ((gx = 2 ∧ bs = 20 ∧ SortedIn (ltOf cf) 0 (min 20 n) dk ∧ SortedIn (ltOf cf) 20 (min 40 n) dk ∧ SortedIn (ltOf cf) 40 n dk) ∨ (gx = 1 ∧ bs = 40 ∧ SortedIn (ltOf cf) 0 (min 40 n) dk ∧ SortedIn (ltOf cf) 40 n dk) ∨ (bs = 80 ∧ SortedIn (ltOf cf) 0 n dk)))
      case atStart => exact ⟨20, d1, rfl, hd1, S1, HA, .inl ⟨rfl, rfl, HB.out⟩⟩
      case round =>
        clear S1 HA HB hd1
        obtain ⟨bs, dk, rfl, hds, S1, HA, HB⟩ := hrel
        by_cases hlt : bs < n
        · have hlt' : (bs : Int) < (n : Int) := by omega
          rcases HB.out with ⟨hgk, rfl, b1, b2, b3⟩ | ⟨hgk, rfl, b1, b2⟩ | ⟨rfl, b1⟩
          · have HB' : Aside (SortedIn (ltOf cf) 0 (min 20 n) dk ∧ SortedIn (ltOf cf) 20 (min 40 n) dk ∧ SortedIn (ltOf cf) 40 n dk) := ⟨b1, b2, b3⟩
            clear b1 b2 b3 HB
            have hgk' : 1 ≤ gk ∧ ¬ gk = 1 := by omega
            clear hgk
            simp only [Int.cast_ofNat_Int] at hlt' ⊢
            go_wp2
            go_loopg [7, 8] 1 (fun gx sa sb wx => ∃ (dj : Array α), dj.size = n ∧ Aside (SWK enc k w blk off dj wx) ∧ Aside (PermIn 0 n d dj) ∧ ((gx = 1 ∧ sa = .int .i64 0 ∧ sb = .int .i64 40 ∧ Aside (SortedIn (ltOf cf) 0 (min 20 n) dj ∧ SortedIn (ltOf cf) 20 (min 40 n) dj ∧ SortedIn (ltOf cf) 40 n dj)) ∨ (gx = 0 ∧ 40 ≤ n ∧ sa = .int .i64 40 ∧ sb = .int .i64 80 ∧ Aside (SortedIn (ltOf cf) 0 40 dj ∧ SortedIn (ltOf cf) 40 n dj))))
            case atStart => exact ⟨dk, hds, S1, HA, .inl ⟨rfl, rfl, rfl, HB'⟩⟩
            case round =>
              clear S1 HA HB' hds
              obtain ⟨dj, hds, S1, HA, hor⟩ := hrel
              rcases hor with ⟨hg, rfl, rfl, hB⟩ | ⟨hg, h40, rfl, rfl, hB⟩
              · have HB := Lib.hid hB.out
                clear hB
                by_cases h40 : 40 ≤ n
                · have h40' : (40 : Int) ≤ (n : Int) := by omega
                  have hcall := HS.out 100 0 20 40 dj wr (by omega) (by rw [HN.out, hds]) S1.out (by omega) (by omega) (by omega) (by omega) (sorted_sub HB.out.1 (by omega) (by omega)) (sorted_sub HB.out.2.1 (by omega) (by omega))
                  rw [hds] at hcall
                  simp only [Int.cast_ofNat_Int] at hcall
                  clear S1
                  go_wp2_with (go_at_fn 114; refine hcall.mono ?_; rintro e w1 ⟨rfl, d1, q1, q2, q3⟩)
                  go_roundg 0
                  case measure => omega
                  case rel => exact ⟨d1, q1.1.trans hds, q3, permIn_trans _ _ _ _ _ HA.out (permIn_mono _ _ _ _ 0 n (by omega) (by omega) (by omega) q1), .inr ⟨rfl, h40, rfl, rfl, q2, sorted_congr HB.out.2.2 fun i h1 _ => q1.2.1 i (.inr h1)⟩⟩
                · have h40' : ¬ (40 : Int) ≤ (n : Int) := by omega
                  have h20' : (20 : Int) < (n : Int) := by omega
                  have hcall := HS.out 100 0 20 n dj wr (by omega) (by rw [HN.out, hds]) S1.out (by omega) (by omega) (by omega) (by omega) (sorted_sub HB.out.1 (by omega) (by omega)) (sorted_sub HB.out.2.1 (by omega) (by omega))
                  rw [hds] at hcall
                  simp only [Int.cast_ofNat_Int] at hcall
                  clear S1
                  go_wp2_with (go_at_fn 114; refine hcall.mono ?_; rintro e w1 ⟨rfl, d1, q1, q2, q3⟩)
                  go_roundg 1
                  case measure => omega
                  case rel => exact ⟨40, d1, by go_num, q1.1.trans hds, q3, permIn_trans _ _ _ _ _ HA.out q1, .inr (.inl ⟨rfl, rfl, sorted_sub q2 (by omega) (by omega), fun i j _ _ _ => by omega⟩)⟩
              · have HB := Lib.hid hB.out
                clear hB
                have h80' : ¬ (80 : Int) ≤ (n : Int) := by omega
                have h60' : ¬ (60 : Int) < (n : Int) := by omega
                go_wp2
                go_roundg 1
                case measure => omega
                case rel => exact ⟨40, dj, by go_num, hds, S1, HA, .inr (.inl ⟨rfl, rfl, sorted_sub HB.out.1 (by omega) (by omega), HB.out.2⟩)⟩
          · have HB' := Lib.hid (⟨b1, b2⟩ : SortedIn (ltOf cf) 0 (min 40 n) dk ∧ SortedIn (ltOf cf) 40 n dk)
            clear b1 b2 HB
            have h80' : ¬ (80 : Int) ≤ (n : Int) := by omega
            simp only [Int.cast_ofNat_Int] at hlt' ⊢
            go_wp2
            go_loopg [7, 8] 0 (fun gx sa sb wx => sa = .int .i64 0 ∧ sb = .int .i64 80 ∧ Aside (SWK enc k w blk off dk wx))
            case atStart => exact ⟨rfl, rfl, S1⟩
            case round =>
              clear S1
              obtain ⟨rfl, rfl, S1⟩ := hrel
              have hcall := HS.out 100 0 40 n dk wr (by omega) (by rw [HN.out, hds]) S1.out (by omega) (by omega) (by omega) (by omega) (sorted_sub HB'.out.1 (by omega) (by omega)) HB'.out.2
              rw [hds] at hcall
              simp only [Int.cast_ofNat_Int] at hcall
              clear S1
              go_wp2_with (go_at_fn 114; refine hcall.mono ?_; rintro e w1 ⟨rfl, d1, q1, q2, q3⟩)
              go_roundg 0
              case measure => omega
              case rel => exact ⟨80, d1, by go_num, q1.1.trans hds, q3, permIn_trans _ _ _ _ _ HA.out q1, .inr (.inr ⟨rfl, q2⟩)⟩
          · exact absurd h60 (by omega)
        · have hlt' : ¬ (bs : Int) < (n : Int) := by omega
          go_wp2
          go_end0
          refine ⟨rfl, dk, HA.out, ?_, S1.out⟩
          rcases HB.out with ⟨_, rfl, b1, b2, b3⟩ | ⟨_, rfl, b1, b2⟩ | ⟨rfl, b1⟩
          · exact sorted_sub b1 (by omega) (by omega)
          · exact sorted_sub b1 (by omega) (by omega)
          · exact b1
set_option maxHeartbeats 1000000 in
theorem sortStable_any {k : Nat} (L : StabL P k) (enc : α → List Value) (cf : α → α → Int) (hO : SWO (ltOf cf)) (g : Nat) (cb : Array Value) (blk off cap : Nat) (d : Array α) (w : World)
    (eg : ∀ args w, (callFunc g args).run P w = .ok (.enter g args) w) (hcmp : CmpLays P g cb enc k cf blk off d.size w) (R : RowK enc k w blk off d) (hI : InsOk P enc k cf g cb blk off cap d.size w) (h60 : d.size < 60) :
    Calls P 63 #[.slice (some ⟨blk, off, none⟩) d.size cap, .func (.func g) #[] cb] w fun e w' =>
      e = .returned (.tuple #[]) ∧ ∃ d', PermIn 0 d.size d d' ∧ SortedIn (ltOf cf) 0 d.size d' ∧ SWK enc k w blk off d' w' := by
  have mixed := L.mixed
  have ti := L.ti
  have ai := L.ai
  have zi := L.zi
  have vi := L.vi
  have tu := L.tu
  have au := L.au
  have zu := L.zu
  have tb := L.tb
  have ab := L.ab
  have zb := L.zb
  have vb := L.vb
  have ts := L.ts
  have asl := L.asl
  have zs := L.zs
  have vs := L.vs
  have af := L.af
  have zf := L.zf
  have aE := L.aE
  have zE := L.zE
  have FG := L.fSS
  have e56 := L.eSt
  have hcall := stable_any L enc cf hO g cb blk off cap d w eg hcmp R hI h60
  clear hcmp hI
  go_enter FG, Tryz.ntmps63
  go_wp2_with (go_at_fn 89; refine hcall.mono ?_; rintro e w1 ⟨rfl, d1, q1, q2, q3⟩)
  go_end0
  exact ⟨rfl, d1, q1, q2, q3⟩
end
theorem stabL : StabL Tryz.prog 11 where
  mixed := by kernel_rfl
  fSR := Tryz.func143
  fRo := Tryz.func132
  fSM := Tryz.func114
  fSt := Tryz.func89
  fSS := Tryz.func63
  eSR := enters_of Tryz.func143 (by kernel_rfl) rfl
  eRo := enters_of Tryz.func132 (by kernel_rfl) rfl
  eSM := enters_of Tryz.func114 (by kernel_rfl) rfl
  eSt := enters_of Tryz.func89 (by kernel_rfl) rfl
  eIn := enters_of Tryz.func113 (by kernel_rfl) rfl
  ti := Tryz.underlying3
  ai := Tryz.isAgg3
  zi := Tryz.sizeOf3
  vi := Tryz.zeroValue3
  tu := Tryz.underlying112
  au := Tryz.isAgg112
  zu := Tryz.sizeOf112
  tb := Tryz.underlying4
  ab := Tryz.isAgg4
  zb := Tryz.sizeOf4
  vb := Tryz.zeroValue4
  ts := Tryz.underlying65
  asl := Tryz.isAgg65
  zs := Tryz.sizeOf65
  vs := Tryz.zeroValue65
  af := Tryz.isAgg157
  zf := Tryz.sizeOf157
  aE := Tryz.isAgg63
  zE := Tryz.sizeOf63
end Go.Proofs.YtelnnjofccldgaaGreatDoor
