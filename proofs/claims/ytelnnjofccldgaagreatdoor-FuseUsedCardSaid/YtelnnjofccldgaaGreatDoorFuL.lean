/-
  Layer 16 (fuse): the law FuseUsed: for at most 30 passages with at most 20 sources each, Used returns the sources in the order of the reference.
-/
import Derived.Test.YtelnnjofccldgaaGreatDoorLaid
import Derived.Test.YtelnnjofccldgaaGreatDoorRows
import Derived.Test.YtelnnjofccldgaaGreatDoorCards
import Derived.Test.YtelnnjofccldgaaGreatDoorTie
import Derived.SevenTiedAt
import Derived.Test.YtelnnjofccldgaaGreatDoorFuA
import Derived.Test.YtelnnjofccldgaaGreatDoorMgD
namespace Go.Proofs.YtelnnjofccldgaaGreatDoor
open Go.RowKit Go.Tw Go.Tw.Ord Go.Tw.Ps Go.Tw.Fu Go.Sort Go.ChangeShapes Go.WideShapes Go.Proofs.YtelnnjofccldgaaGreatDoor.Fu
abbrev eS : TypeId := 32
theorem own0 : ownKnob Tryz.prog.godebug = none := by kernel_rfl
theorem laid0 : laidOutB Tryz.prog = true := by kernel_rfl
def laidL : List (String × DataW Unit) := [("math/bits.deBruijn32tab", Rows.laid_math_bits_deBruijn32tab), ("math/bits.deBruijn64tab", Rows.laid_math_bits_deBruijn64tab), ("internal/strconv.uint64pow10", Rows.laid_internal_strconv_uint64pow10)]
theorem door_met (os : Os) (args : Array Value) : laidMetH Tryz.prog laidL ((World.doorLaid Tryz.prog 24 os).forCall (fun _ _ => 0) ⟨#[], args, []⟩).memory :=
  laidMetH_of_parts3 (fuel := 8) (laidMet_of_run' 8 (by kernel_rfl) (by kernel_rfl)) (by kernel_rfl) (by kernel_rfl)
theorem opensSrc : Opens Tryz.prog 32 tSrc :=
  opens_via (fun x => ⟨x.1, x.2⟩) (fun _ => rfl) (opens_struct Tryz.underlying32 (by kernel_rfl) (.cons rfl (by kernel_rfl) (opens_str Tryz.underlying9) (.one rfl (by kernel_rfl) (opens_int Tryz.underlying3))))
theorem opensPas : Opens Tryz.prog 29 (tPas eS) :=
  opens_via (fun x => ⟨x.1, x.2.1, x.2.2.1, x.2.2.2.1, x.2.2.2.2.1, x.2.2.2.2.2.1, x.2.2.2.2.2.2.1, x.2.2.2.2.2.2.2⟩) (fun _ => rfl)
    (opens_struct Tryz.underlying29 (by kernel_rfl) (.cons rfl (by kernel_rfl) (opens_str Tryz.underlying9) (.cons rfl (by kernel_rfl) (opens_str Tryz.underlying9) (.cons rfl (by kernel_rfl) (opens_int Tryz.underlying3) (.cons rfl (by kernel_rfl) (opens_str Tryz.underlying9)
      (.cons rfl (by kernel_rfl) (opens_str Tryz.underlying9) (.cons rfl (by kernel_rfl) (opens_int Tryz.underlying3) (.cons rfl (by kernel_rfl) (opens_int Tryz.underlying3) (.one rfl (by kernel_rfl) (opens_slice Tryz.underlying27 (by kernel_rfl) (by decide) opensSrc (e' := eS)))))))))))
theorem opensDet : Opens Tryz.prog 61 (tStr.pair (tInt.pair (tInt.pair (tStr.pair (tStr.pair (tInt.pair tInt)))))) :=
  opens_struct Tryz.underlying61 (by kernel_rfl) (.cons rfl (by kernel_rfl) (opens_str Tryz.underlying9) (.cons rfl (by kernel_rfl) (opens_int Tryz.underlying3) (.cons rfl (by kernel_rfl) (opens_int Tryz.underlying3) (.cons rfl (by kernel_rfl) (opens_str Tryz.underlying9)
      (.cons rfl (by kernel_rfl) (opens_str Tryz.underlying9) (.cons rfl (by kernel_rfl) (opens_int Tryz.underlying3) (.one rfl (by kernel_rfl) (opens_int Tryz.underlying3))))))))
theorem opensRej : Opens Tryz.prog 104 ((tStr.pair (tInt.pair (tInt.pair (tStr.pair (tStr.pair (tInt.pair tInt)))))).pair tInt) :=
  opens_struct Tryz.underlying104 (by kernel_rfl) (.cons rfl (by kernel_rfl) opensDet (.one rfl (by kernel_rfl) (opens_int Tryz.underlying3)))
theorem opensFused : Opens Tryz.prog 25 (((tPas eS).list 29).pair ((((tStr.pair (tInt.pair (tInt.pair (tStr.pair (tStr.pair (tInt.pair tInt)))))).pair tInt).list 104).pair (tInt.pair tInt))) :=
  opens_struct Tryz.underlying25 (by kernel_rfl) (.cons rfl (by kernel_rfl) (opens_slice Tryz.underlying22 (by kernel_rfl) (by decide) opensPas)
    (.cons rfl (by kernel_rfl) (opens_slice Tryz.underlying23 (by kernel_rfl) (by decide) opensRej) (.cons rfl (by kernel_rfl) (opens_int Tryz.underlying3) (.one rfl (by kernel_rfl) (opens_int Tryz.underlying3)))))
set_option maxRecDepth 100000 in
set_option maxHeartbeats 4000000 in
theorem used_walk : LawWalkL Tryz.prog laidL 3 Tryz.f3 := by
  intro H enc W base args ds ps hval hA hsz hL
  rw [Tryz.params3] at hA hval
  obtain ⟨v0, d0, rfl, rfl, h0⟩ := trodAll_one hA
  obtain ⟨cs, x, e0, hi⟩ := arg_struct Tryz.underlying25 opensFused (hval 0 _ _ rfl rfl) h0
  obtain ⟨l, rj, c, m⟩ := x
  obtain ⟨_, _, hcs, ⟨pv, rfl, hp⟩, _, _, rfl, ⟨rv, rfl, hr⟩, _, _, rfl, ⟨rfl, -⟩, ⟨rfl, -⟩⟩ := hi
  obtain ⟨ra, rc, _, _, rfl, -⟩ := hr
  have hcc : cs = #[pv, .slice ra rj.length rc, .int .i64 c, .int .i64 m] := by
    apply Array.toList_inj.1
    rw [hcs]; rfl
  subst hcc
  subst e0
  clear hA hval h0 hsz hL hcs
  have n0 := heap_alloc_new W (.cells #[pv, .slice ra rj.length rc, .int .i64 c, .int .i64 m] 25)
  have HB0 := Lib.hid (bl_alloc (Below.refl W.heap.size W) (.cells #[pv, .slice ra rj.length rc, .int .i64 c, .int .i64 m] 25))
  have HP := Lib.hid hp
  obtain ⟨ao, cp, g, o, rfl, hl1, hl2, hop⟩ := Fu.pas_row hp
  unfold maxLen at hl2
  have HO := Lib.hid hop
  have HN := Lib.hid n0
  obtain ⟨x0, x1, x2, x3, xf⟩ := blk4 n0
  clear hp hop n0
  go_enter Tryz.func3, Tryz.ntmps3
  by_cases h30 : 30 < l.length
  · have q30 : (30 : Int) < (l.length : Int) := by omega
    clear h30
    have HAW := Lib.hid awake_any
    go_wp2_with (fail)
    with_reducible refine (HAW.out _).mono ?_
    clear HAW
    rintro r wz ⟨rfl, hbz⟩
    have HBZ := Lib.hid (bl_trans HB0.out hbz)
    clear hbz
    go_wp2
    go_ret
    exact ⟨rfl, HBZ.out⟩
  have q30 : decide ((30 : Int) < (l.length : Int)) = false := by simp; omega
  have H30 := Lib.hid (show l.length ≤ 30 by omega)
  clear h30
  go_wp2_with (fail)
  generalize W.alloc (.cells #[.slice ao l.length cp, .slice ra rj.length rc, .int .i64 c, .int .i64 m] 25) = w1 at HN HB0 x0 x1 x2 x3 xf ⊢
  go_loopg [3] l.length (fun g i wr => ∃ k : Nat, k + g = l.length ∧ i = .int .i64 k ∧ wr = w1 ∧ Hid (∀ j (hj : j < l.length), j < k → l[j].src.length ≤ 20))
  case atStart => exact ⟨0, by omega, rfl, rfl, Lib.hid (fun j hj h => by omega)⟩
  case round =>
    obtain ⟨k, hk, rfl, rfl, HT⟩ := hrel
    by_cases hlt : k < l.length
    · obtain ⟨rfl, -, -, -, a, n, c', hsx, hc⟩ := HO.out wr (.of_below HB0.out) k hlt
      obtain ⟨a2, c2, _, _, hv2, -⟩ := id hsx
      injection hv2 with e1 e2 e3
      subst e1 e2 e3
      have c7 : wr.cell? ⟨g, o + k * 8 + 7, none⟩ = some (.slice a l[k].src.length c') := (hc 7 (by decide)).trans rfl
      have HG1 := Lib.hid (show ∀ j (hj : j < l.length), j = k → l[j] = l[k] by rintro j hj rfl; rfl)
      have k0 : (0 : Int) ≤ (k : Int) := by omega
      have k1 : (k : Int) < (l.length : Int) := by omega
      clear hsx hc
      generalize l[k] = y at c7 HG1
      by_cases hp : 20 < y.src.length
      · have qp : (20 : Int) < (y.src.length : Int) := by omega
        clear hp
        have HAW := Lib.hid awake_any
        go_wp2_with (fail)
        with_reducible refine (HAW.out _).mono ?_
        clear HAW
        rintro r wz ⟨rfl, hbz⟩
        have HBZ := Lib.hid (bl_trans HB0.out hbz)
        clear hbz
        go_wp2
        go_ret
        exact ⟨rfl, HBZ.out⟩
      · have qp : decide ((20 : Int) < (y.src.length : Int)) = false := by simp; omega
        have HP2 := Lib.hid (show y.src.length ≤ 20 by omega)
        clear hp
        go_wp2
        go_roundg (l.length - (k + 1))
        case measure => omega
        case rel => exact ⟨k + 1, by omega, by go_num, rfl, Lib.hid (fun j hj h => by
          by_cases e : j = k
          · rw [HG1.out j hj e]; exact HP2.out
          · exact HT.out j hj (by omega))⟩
    · have hkd : decide (k < l.length) = false := by simp; omega
      have HA := Lib.hid (show ∀ x ∈ l, x.src.length ≤ 20 from fun x hx => by
        obtain ⟨j, hj, rfl⟩ := List.getElem_of_mem hx
        exact HT.out j hj (by omega))
      clear hlt hk HT
      have HPW := Lib.hid (HP.out.step HB0.out)
      have HFN := Lib.hid (show ∀ w', Below wr.heap.size wr w' → w'.cell? ⟨W.heap.size, 0, none⟩ = some (.slice ao l.length cp) ∧ w'.cell? ⟨W.heap.size, 1, none⟩ = some (.slice ra rj.length rc) ∧ w'.cell? ⟨W.heap.size, 2, none⟩ = some (.int .i64 c) ∧ w'.cell? ⟨W.heap.size, 3, none⟩ = some (.int .i64 m) from fun w' hw' => by
        obtain ⟨z0, z1, z2, z3, -⟩ := blk4 ((hw'.block _ (lt_of_heap HN.out)).trans HN.out)
        exact ⟨z0, z1, z2, z3⟩)
      have HU1 := Lib.hid (used_any l _ _ ra rj.length rc c m wr HPW.out H30.out HA.out)
      clear xf
      go_wp2_with (fail)
      with_reducible refine HU1.out.mono ?_
      clear HU1
      rintro e w2 ⟨⟨v2, s2, rfl, hu2, hs2⟩, hb2⟩
      have HB2 := Lib.hid hb2
      have HS2 := Lib.hid hs2
      have HU2 := Lib.hid hu2
      have HUR := Lib.hid (usedR_any l _ _ ra rj.length rc c m w2 (HPW.out.step hb2) H30.out HA.out)
      clear x0 x1 x2 x3 hb2 hs2 hu2
      obtain ⟨x0, x1, x2, x3⟩ := HFN.out w2 HB2.out
      go_wp2_with (fail)
      with_reducible refine HUR.out.mono ?_
      clear HUR
      rintro e w3 ⟨⟨v3, rfl, s3, hg3⟩, hb3⟩
      have HB3 := Lib.hid (show Below W.heap.size W w3 from HB0.out.trans ((HB2.out.trans (hb3.mono HB2.out.size)).mono HB0.out.size))
      obtain rfl : s3 = s2 := ssr_uniq hg3.so HU2.out.spec.1 (fun y => by
        rw [hg3.me, HU2.out.spec.2]
        unfold InU
        rw [List.take_length])
      obtain ⟨a2, p2, g2, o2, rfl, -, r2, ho2⟩ := src_row (HS2.out.step hb3)
      obtain ⟨a3, p3, g3, o3, rfl, -, r3, ho3⟩ := src_row hg3.sl
      have h600 : s3.length ≤ 600 := hg3.ln
      have HO2 := Lib.hid ho2
      have HO3 := Lib.hid ho3
      clear ho2 ho3 hg3 hb3 x0 x1 x2 x3 HFN HS2 HU2 HA HPW hkd
      go_wp2_with (fail)
      go_loopg [6] s3.length (fun g i wr => ∃ k : Nat, k + g = s3.length ∧ i = .int .i64 k ∧ Hid (Below w3.heap.size w3 wr))
      case atStart => exact ⟨0, by omega, rfl, Lib.hid (Below.refl _ _)⟩
      case round =>
        obtain ⟨wx, rfl⟩ : ∃ wx : World, wx = wr := ⟨_, rfl⟩
        obtain ⟨k, hk, rfl, HG⟩ := hrel
        by_cases hlt : k < s3.length
        · obtain ⟨rfl, -, -, -, x0, x1⟩ := HO2.out wx (.of_below HG.out) k hlt
          obtain ⟨rfl, -, -, -, y0, y1⟩ := HO3.out wx (.of_below HG.out) k hlt
          generalize s3[k] = x at x0 x1 y0 y1
          have HE := run_src_neq x x
          simp only [srcCells, decide_true, Bool.not_true] at HE
          have k0 : (0 : Int) ≤ (k : Int) := by omega
          have k1 : (k : Int) < (s3.length : Int) := by omega
          go_wp2_with (fail)
          go_quiet (fail)
          go_wp2_with (fail)
          go_roundg (s3.length - (k + 1))
          case measure => omega
          case rel => exact ⟨k + 1, by omega, by go_num, Lib.hid (bl_drewN HG.out _)⟩
        · obtain rfl : k = s3.length := by omega
          have hkd : decide ((s3.length : Int) < (s3.length : Int)) = false := by simp
          have HBX := Lib.hid (show Below W.heap.size W wx from HB3.out.trans (HG.out.mono HB3.out.size))
          clear hlt hk
          have HAW := Lib.hid awake_any
          go_wp2_with (fail)
          with_reducible refine (HAW.out _).mono ?_
          clear HAW
          rintro r wz ⟨rfl, hbz⟩
          have HBZ := Lib.hid (bl_trans HBX.out hbz)
          clear hbz
          go_wp2
          go_ret
          exact ⟨rfl, HBZ.out⟩
end Go.Proofs.YtelnnjofccldgaaGreatDoor
