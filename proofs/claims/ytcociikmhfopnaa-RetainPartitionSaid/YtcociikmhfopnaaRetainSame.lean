/-
  Layer 40 (retain): the walks: Same of equal lists; sameTexts of equal lists; great.
-/
import Derived.Test.YtcociikmhfopnaaRetainRel
namespace Go.Proofs.Ytcociikmhfopnaa
open Go.RowKit Go.Tw Go.Tw.Retain

/-- two blocks made, the draw behind them: the world behind a name -/
theorem wp_two_boxes {P : Program} {c : Code} {Q : Exit → Act → World → Prop} {a : Act} {w : World} {A B : Obj} (h : ∀ W : World, Below w.heap.size w W → W.heap[w.heap.size]? = some A → W.heap[w.heap.size + 1]? = some B → c.wp P Q a W) : c.wp P Q a ((w.alloc A).alloc B).drew :=
  h _ (bl_alloc (bl_alloc (Below.refl _ _) _) _).drew (alloc2_0 w _ _) (alloc2_1 w _ _)

set_option maxHeartbeats 1000000 in
theorem sameTexts_any (l : List ByteArray) (va vb : Value) (w : World) (ha : SlIs tStr (· < w.heap.size) w va l) (hb : SlIs tStr (· < w.heap.size) w vb l) :
    Calls Try.prog 20 #[va, vb] w fun e w' => e = .returned (.bool true) ∧ Below w.heap.size w w' := by
  obtain ⟨aa, capa, ba, offa, rfl, hla, hma, hoa⟩ := strs_open ha
  obtain ⟨ab, capb, bb, offb, rfl, hlb, hmb, hob⟩ := strs_open hb
  unfold maxLen at hma hmb
  clear ha hb
  go_enter Try.func20, Try.ntmps20
  go_wp2
  go_loopg [13] l.length (fun g i wr => ∃ k : Nat, k + g = l.length ∧ i = .int .i64 k ∧ Below w.heap.size w wr)
  case atStart => exact ⟨0, by omega, rfl, Below.refl _ _⟩
  case round =>
    obtain ⟨k, hk, rfl, hb1⟩ := hrel
    by_cases hlt : k < l.length
    · obtain ⟨rfl, -, hx1, c0, -⟩ := hoa wr (.of_below hb1) k hlt
      obtain ⟨rfl, -, hx2, d0, -⟩ := hob wr (.of_below hb1) k hlt
      clear hoa hob
      have hs1 := hb1.size
      have k0 : (0 : Int) ≤ (k : Int) := by omega
      have k1 : (k : Int) < (l.length : Int) := by omega
      go_wp2_with (go_quiet (fail))
      go_roundg (l.length - (k + 1))
      case measure => omega
      case rel => exact ⟨k + 1, by omega, by go_num, bl_drewN hb1 _⟩
    · clear hoa hob
      go_wp2
      go_ret
      exact ⟨rfl, hb1⟩

set_option maxRecDepth 100000 in
set_option maxHeartbeats 2000000 in
theorem Same_any (l : List Img) (va vb : Value) (w : World) (ha : SlIs tImg (· < w.heap.size) w va l) (hb : SlIs tImg (· < w.heap.size) w vb l) :
    Calls Try.prog 19 #[va, vb] w fun e w' => e = .returned (.bool true) ∧ Below w.heap.size w w' := by
  obtain ⟨aa, capa, ba, offa, rfl, hla, hma, hoa⟩ := img_open ha
  obtain ⟨ab, capb, bb, offb, rfl, hlb, hmb, hob⟩ := img_open hb
  unfold maxLen at hma hmb
  clear ha hb
  go_enter Try.func19, Try.ntmps19
  go_wp2
  go_loopg [5] l.length (fun g i wr => ∃ k : Nat, k + g = l.length ∧ i = .int .i64 k ∧ Below w.heap.size w wr)
  case atStart => exact ⟨0, by omega, rfl, Below.refl _ _⟩
  case round =>
    obtain ⟨k, hk, rfl, hb1⟩ := hrel
    by_cases hlt : k < l.length
    · obtain ⟨rfl, -, hx1, va, hka, c0, c1, c2, c3, c4⟩ := hoa wr (.of_below hb1) k hlt
      obtain ⟨rfl, -, hx2, vb, hkb, d0, d1, d2, d3, d4⟩ := hob wr (.of_below hb1) k hlt
      clear hoa hob
      obtain ⟨aoa, cpa, bba, boa, rfl, hqa1, hqa2, hqa⟩ := strs_open hka.hold
      obtain ⟨aob, cpb, bbb, bob, rfl, hqb1, hqb2, hqb⟩ := strs_open hkb.hold
      have HQA := Lib.hid hqa; clear hqa
      have HQB := Lib.hid hqb; clear hqb
      unfold maxLen at hqa2 hqb2
      have hs1 := hb1.size
      have k0 : (0 : Int) ≤ (k : Int) := by omega
      have k1 : (k : Int) < (l.length : Int) := by omega
      have hy1 : ba < wr.heap.size := by omega
      have hy2 : bb < wr.heap.size := by omega
      have HX : Hid (∀ j (h : j < l[k].hold.length), aoa = some ⟨bba, boa, none⟩ ∧ aob = some ⟨bbb, bob, none⟩ ∧ bba < wr.heap.size ∧ bbb < wr.heap.size ∧ wr.cell? ⟨bba, boa + j, none⟩ = some (.string l[k].hold[j]) ∧ wr.cell? ⟨bbb, bob + j, none⟩ = some (.string l[k].hold[j])) := Lib.hid (fun j h => by
        obtain ⟨q1, -, q2, q3, -⟩ := HQA.out wr (SameOn.refl _ _) j h
        obtain ⟨r1, -, r2, r3, -⟩ := HQB.out wr (SameOn.refl _ _) j h
        exact ⟨q1, r1, q2, r2, q3, r3⟩)
      clear HQA HQB hka hkb
      have hform : l[k].hold.length = 0 ∨ (0 < l[k].hold.length ∧ aoa = some ⟨bba, boa, none⟩ ∧ aob = some ⟨bbb, bob, none⟩) := by
        rcases Nat.eq_zero_or_pos l[k].hold.length with hz | hz
        · exact .inl hz
        · obtain ⟨q1, q2, -⟩ := HX.out 0 hz
          exact .inr ⟨hz, q1, q2⟩
      rcases hform with hz | ⟨hz, rfl, rfl⟩
      all_goals
        have HZ := Lib.hid hz; clear hz
        go_wp2_with (fail)
        go_region
        all_goals
          go_wp2
          refine wp_two_boxes (w := wr) fun W bw n0 n1 => ?_
          have bW := hb1.trans (bw.mono hb1.size)
          obtain ⟨f0, f1, f2, f3, f4, ff⟩ := blk5 n0
          obtain ⟨g0, g1, g2, g3, g4, gf⟩ := blk5 n1
          clear n0 n1 c0 c1 c2 c3 c4 d0 d1 d2 d3 d4
          go_loopg [8] l[k].hold.length (fun g' i' wi => ∃ j n : Nat, j + g' = l[k].hold.length ∧ i' = .int .i64 j ∧ wi = W.drewN n)
          case atStart => exact ⟨0, 0, by omega, rfl, rfl⟩
          case round =>
            obtain ⟨j, n, hj, rfl, rfl⟩ := hrel
            by_cases hjl : j < l[k].hold.length
            · obtain ⟨q1, q2, e1, e2, e3', e4'⟩ := HX.out j hjl
              have e3 := (bw.cell (p := ⟨bba, boa + j, none⟩) e1).trans e3'
              have e4 := (bw.cell (p := ⟨bbb, bob + j, none⟩) e2).trans e4'
              have j0 : (0 : Int) ≤ (j : Int) := by omega
              have j1 : (j : Int) < (l[k].hold.length : Int) := by omega
              clear e3' e4'
              cases q1
              cases q2
              go_wp2_with (go_quiet (fail))
              go_roundg (l[k].hold.length - (j + 1))
              case measure => omega
              case rel => exact ⟨j + 1, _, by omega, by go_num, rfl⟩
            · go_wp2
              go_roundg (l.length - (k + 1))
              case measure => omega
              case rel => exact ⟨k + 1, by omega, by go_num, bl_drewN bW _⟩
    · clear hoa hob
      go_wp2
      go_ret
      exact ⟨rfl, hb1⟩
end Go.Proofs.Ytcociikmhfopnaa
