/-
  Layer 40 (retain): the law RetainBack.
-/
import Derived.Test.YtcociikmhfopnaaRetainLaws
import Derived.Test.YtcociikmhfopnaaRetainMore
namespace Go.Proofs.Ytcociikmhfopnaa
open Go.RowKit Go.Tw Go.Tw.Retain Go.ChangeShapes Go.WideShapes

set_option maxRecDepth 100000 in
set_option maxHeartbeats 1000000 in
theorem back_walk : LawWalk Try.prog 8 Try.f8 := by
  intro H enc W base args ds ps hval hA hsz
  rw [Try.params8] at hA hval
  obtain ⟨v0, v1, v2, d0, d1, d2, p0, p1, p2, rfl, rfl, rfl, h0, h1, h2⟩ := trodAll_three hA
  obtain ⟨cs, ⟨l, ims, cl⟩, rfl, hi⟩ := arg_struct Try.underlying39 opensStore (hval 0 _ _ rfl rfl) h0
  obtain ⟨v, vi, vc, rfl, hp⟩ := store_is hi
  have hw := Way.start hp
  have HP := Lib.hid hp
  clear hi hp
  obtain ⟨id, rfl, hid⟩ := arg_str Try.underlying9 (hval 1 _ _ rfl rfl) h1
  obtain ⟨rs, rfl, hrs⟩ := arg_str Try.underlying9 (hval 2 _ _ rfl rfl) h2
  clear hA hval h0 h1 h2 hsz
  have HR := Lib.hid hrs
  clear hid hrs
  go_enter Try.func8, Try.ntmps8
  go_wp2_with (fail)
  refine (great_any l ims cl v vi vc _ hw.args).mono ?_
  rintro e w1 ⟨hb, rfl | ⟨rfl, hs⟩⟩
  · have b1 := (hw.step hb).below
    clear hw hb
    go_wp2_with (go_at_call 9; refine (awake_any _).mono ?_; rintro e w2 ⟨rfl, hb2⟩)
    go_ret
    exact ⟨rfl, bl_trans b1 hb2⟩
  obtain ⟨hs1, hs2, hs3, hs4⟩ := hs
  have hbig : ims.length ≤ 1000000 := by omega
  have hH : ∀ im ∈ ims, im.hold.length ≤ 1000000 := fun im h => by have := hs4 im h; omega
  have hH2 : ∀ im ∈ ims, im.hold.length ≤ 40 := hs4
  have HH := Lib.hid hH
  have HH2 := Lib.hid hH2
  clear hs1 hs2 hs3 hs4 hH hH2
  replace hw := hw.step hb
  clear hb
  obtain ⟨c0, c1, c2, cf⟩ := blk3 hw.box
  have hWs : W.heap.size < w1.heap.size := lt_of_heap hw.box
  rcases Decidable.em ((holdC (nameC rs) ims id rs).2 = 0) with he | he
  case inr =>
    have HE := Lib.hid (hold_err he)
    have hne : ((holdC (nameC rs) ims id rs).2 != 0) = true := by simpa using he
    clear he
    go_wp2_with (fail)
    refine (Hold_any ims vi id rs _ hw.args.imgs hbig HH.out HR.out).mono ?_
    rintro e w2 ⟨va, rfl, hA, hb⟩
    rw [HE.out] at hA
    replace hw := hw.step hb
    clear hb
    clear c0 c1 c2 cf hWs
    obtain ⟨c0, c1, c2, cf⟩ := blk3 hw.box
    have hWs : W.heap.size < w2.heap.size := lt_of_heap hw.box
    go_wp2_with (fail)
    refine (Same_any _ _ _ _ hA hw.args.imgs).mono ?_
    rintro e w3 ⟨rfl, hb⟩
    have b3 := (hw.step hb).below
    clear c0 c1 c2 cf hWs
    clear hw hb hA
    go_wp2_with (fail)
    refine (awake_any _).mono ?_
    rintro e w4 ⟨rfl, hb⟩
    go_wp2
    go_ret
    exact ⟨rfl, bl_trans b3 hb⟩
  obtain ⟨k, hk⟩ := hold_ok he
  have HE := Lib.hid he; clear he
  go_wp2_with (fail)
  refine (Hold_any ims vi id rs _ hw.args.imgs hbig HH.out HR.out).mono ?_
  rintro e w2 ⟨va, rfl, hA, hb⟩
  rw [HE.out]
  replace hw := hw.step hb
  clear hb
  clear c0 c1 c2 cf hWs
  obtain ⟨c0, c1, c2, cf⟩ := blk3 hw.box
  have hWs : W.heap.size < w2.heap.size := lt_of_heap hw.box
  have hK := Lib.hid hk
  generalize (holdC (nameC rs) ims id rs).1 = r at hA hk hK
  have hrl : r.length = ims.length := hk.len
  have HB := Lib.hid hk.back
  have hr1 : r.length ≤ 1000000 := by omega
  have hrH : ∀ im ∈ r, im.hold.length ≤ 1000000 := fun im h => by
    obtain ⟨g1, g2, g3, rfl⟩ := hK.out
    rcases List.mem_or_eq_of_mem_set h with h | rfl
    · exact HH.out im h
    · have := HH2.out _ (List.getElem_mem g1)
      simp; omega
  have HRH := Lib.hid hrH
  clear hk hrH
  go_wp2_with (fail)
  refine (Release_any r va id rs _ hA hr1 HRH.out).mono ?_
  rintro e w3 ⟨vb, rfl, hB, hb⟩
  rw [HB.out] at hB
  rw [HB.out]
  replace hw := hw.step hb
  replace hA := hA.step hb
  clear hb
  clear c0 c1 c2 cf hWs
  obtain ⟨c0, c1, c2, cf⟩ := blk3 hw.box
  have hWs : W.heap.size < w3.heap.size := lt_of_heap hw.box
  go_wp2_with (fail)
  refine (Same_any _ _ _ _ hB hw.args.imgs).mono ?_
  rintro e w4 ⟨rfl, hb⟩
  replace hw := hw.step hb
  replace hA := hA.step hb
  clear hb hB
  clear c0 c1 c2 cf hWs
  obtain ⟨c0, c1, c2, cf⟩ := blk3 hw.box
  have hWs : W.heap.size < w4.heap.size := lt_of_heap hw.box
  obtain ⟨aoi, capi, bi, offi, rfl, hli, hmi, -⟩ := img_open hw.args.imgs
  obtain ⟨aoa, capa, ba, offa, rfl, hla, hma, hoa⟩ := img_open hA
  have HO := Lib.hid hoa; clear hoa hA
  unfold maxLen at hma hmi
  have hlen : ((r.length : Int) != (ims.length : Int)) = false := by simp; omega
  have hlen2 : (ims.length : Int) = (r.length : Int) := by omega
  have HW := Lib.hid hw; clear hw
  obtain ⟨⟨hkr, hkid, hkh⟩, hkn⟩ := hK.out.at
  have HKN := Lib.hid hkn
  have HKI := Lib.hid hkid
  clear hkn hkid
  go_wp2
  clear c0 c1 c2 cf hWs
  go_loopg [61] r.length (fun g i wr => ∃ n : Nat, n + g = r.length ∧ i = .int .i64 n ∧ n ≤ k ∧ Below w4.heap.size w4 wr)
  case atStart => exact ⟨0, by omega, rfl, Nat.zero_le _, Below.refl _ _⟩
  case round =>
    obtain ⟨n, hn, rfl, hnk, hb1⟩ := hrel
    have hlt : n < r.length := by omega
    have hw := HW.out.step hb1
    obtain ⟨rfl, -, hx1, hv, hok, e0, e1, e2, e3, e4⟩ := HO.out wr (.of_below hb1) n hlt
    obtain ⟨hva, hvc, _, _, rfl, -⟩ := hok.hold
    obtain ⟨c0, c1, c2, cf⟩ := blk3 hw.box
    have hWs : W.heap.size < wr.heap.size := lt_of_heap hw.box
    by_cases hq : n = k
    · subst hq
      have hqe : (r[n].id.toList != id.toList) = false := by
        simp only [bne, HKI.out]; simp
      have hqe2 : (r[n].id.toList == id.toList) = true := by
        have := str_eq r[n].id id
        rw [this, HKI.out]; simp
      have hr := hw.args.rules
      have hwb := hw.below
      have B1 : Below wr.heap.size wr (wr.alloc (.cells #[.string r[n].id, .int .i64 r[n].t, .int .i64 r[n].p, .slice hva r[n].hold.length hvc, .int .u64 r[n].dg] 26)) := bl_alloc (Below.refl _ _) _
      have hok2 : ImgOk (· < (wr.alloc (.cells #[.string r[n].id, .int .i64 r[n].t, .int .i64 r[n].p, .slice hva r[n].hold.length hvc, .int .u64 r[n].dg] 26)).heap.size) (wr.alloc (.cells #[.string r[n].id, .int .i64 r[n].t, .int .i64 r[n].p, .slice hva r[n].hold.length hvc, .int .u64 r[n].dg] 26)) r[n] (.slice hva r[n].hold.length hvc) :=
        imgOk_widen (box_img hok (.of_below (B1.mono hb1.size))) (fun j (hj : j < w4.heap.size) => Nat.lt_of_lt_of_le hj (hb1.trans (B1.mono hb1.size)).size)
      have hU := until_held (l := l) (c := 0) hkh
      have hU' : ((untilC l r[n] 0).2 != 0) = true := by simpa using hU
      have HOK := Lib.hid hok2
      have HR2 := Lib.hid (hr.step B1)
      have HWB := Lib.hid (hwb.trans (B1.mono hwb.size))
      clear hU hok hok2 hr hw hwb B1 hb1
      go_wp2_with (fail)
      refine (Until_any l v r[n] _ 0 _ HR2.out HOK.out (by unfold i64ok; omega)).mono ?_
      rintro e w5 ⟨rfl, hb⟩
      have b5 := bl_trans HWB.out hb
      clear hb e0 e1 e2 e3 e4 c0 c1 c2 cf
      go_wp2_with (fail)
      refine (awake_any _).mono ?_
      rintro e w6 ⟨rfl, hb⟩
      go_wp2
      go_ret
      exact ⟨rfl, bl_trans b5 hb⟩
    · have hne := HKN.out n hlt (by omega)
      have hqe : (r[n].id.toList != id.toList) = true := by
        have := str_eq r[n].id id
        simp only [bne, this]; simpa using hne
      have hqe2 : (r[n].id.toList == id.toList) = false := by
        have := str_eq r[n].id id
        rw [this]; simpa using hne
      clear hne hok hw
      go_wp2
      go_roundg (r.length - (n + 1))
      case measure => omega
      case rel => exact ⟨n + 1, by omega, by go_num, by omega, bl_alloc hb1 _⟩
set_option maxRecDepth 100000 in
theorem back_lift (os : Os) (started : os.Started) (H : Type) (enc : TypeId × Value → H) :
    ReturnsInHanded {} Try.checked os 8 .any (Rows.retainBackSpec.pre6 enc Try.prog Try.f8 Rows.retainBackRow.domain false) (Rows.retainBackSpec.post enc Try.prog Try.f8 false true false false) :=
  law_lift (C := Try.checked) (s := Rows.retainBackSpec) (fn := Try.f8) ⟨rfl, fun H ds h => by
    match ds, h with
    | [a, b, c], _ => exact ⟨rfl, rfl, rfl⟩⟩ rfl Try.underlying4 (by kernel_rfl) laid0 own0 started (by kernel_rfl) Try.func8
    (ChangeSpec.witness6 (enc := enc) (C := Try.checked) false ⟨#[], #[.agg #[.slice none 0 0, .slice none 0 0, .slice none 0 0], .string ByteArray.empty, .string ByteArray.empty], []⟩ 8 (by kernel_rfl) (by kernel_rfl) (by kernel_rfl) (by kernel_rfl)) back_walk

/-- THE STATEMENT: RetainBack. -/
theorem back_holds : Rows.RetainBackSaid :=
  OpenClaim.holds_of_wide 8 Try.f8 rfl rfl rfl rfl rfl rfl rfl ⟨rfl, rfl, rfl, rfl, rfl⟩ rfl rfl rfl rfl rfl (by kernel_rfl) Try.func8 (by kernel_rfl)
    (of_decide_eq_true (by kernel_rfl)) (by unfold Func.isWrapper; rw [if_neg (of_decide_eq_false (by kernel_rfl))]; exact ⟨rfl, rfl⟩)
    (fun os started H enc _ => back_lift os started H enc)
end Go.Proofs.Ytcociikmhfopnaa
