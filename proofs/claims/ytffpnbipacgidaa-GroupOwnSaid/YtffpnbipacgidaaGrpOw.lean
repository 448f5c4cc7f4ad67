/-
  Layer 14 (group): the law's wipe; the law GroupOwn.
-/
import Derived.Test.YtffpnbipacgidaaGrpArg
import Derived.Test.YtffpnbipacgidaaAggS
namespace Go.Proofs.Ytffpnbipacgidaa
open Go.RowKit Go.Tw Go.Tw.Ord Go.Tw.Grp Go.Sort Go.ChangeShapes Go.WideShapes
def wiped : Seen := ⟨ByteArray.empty, 0, 0, ByteArray.empty, ByteArray.empty, 0, 0, 0, ByteArray.empty, -7, 0⟩
theorem wiped_ok : SeenOk wiped := by
  have z : i64ok 0 := by unfold i64ok; decide
  exact ⟨Nat.zero_le _, z, z, Nat.zero_le _, Nat.zero_le _, z, z, z, Nat.zero_le _, (by unfold i64ok; decide), z⟩
theorem set_lens {α : Type} {ms L : List (List α)} {k : Nat} {f : List α} (h : ms.map List.length = L.map List.length) (hk : k < ms.length) (hf : f.length = ms[k].length) : (ms.set k f).map List.length = L.map List.length := by
  rw [← h]
  apply List.ext_getElem?
  intro i
  rw [List.getElem?_map, List.getElem?_map, List.getElem?_set]
  by_cases e : k = i
  · subst e
    simp [hk, hf]
  · simp [e]
theorem len_at {α : Type} {ms L : List (List α)} {k : Nat} (h : ms.map List.length = L.map List.length) (hk : k < L.length) : ∃ hk' : k < ms.length, ms[k].length = L[k].length := by
  have hl : ms.length = L.length := by have := congrArg List.length h; simpa using this
  refine ⟨by omega, ?_⟩
  have := congrArg (fun l => l[k]?) h
  simp only [List.getElem?_map] at this
  rw [List.getElem?_eq_getElem (by omega), List.getElem?_eq_getElem hk] at this
  simpa using this
set_option maxRecDepth 100000 in
set_option maxHeartbeats 8000000 in
theorem wipe_any (L : List (List Seen)) (B : Nat) (v : Value) (w : World) (h : NewL tFrm 22 B w v L) (hB : B ≤ w.heap.size) :
    Calls Try.prog 19 #[v] w fun e w' => (∃ v, e = .returned v) ∧ Below B w w' := by
  obtain ⟨ar, cr, rfl, r1, r2⟩ := h.form
  unfold maxLen at r2
  have HN := Lib.hid h
  clear h
  obtain ⟨A, hA⟩ : ∃ A, (sCells wiped).toArray = A := ⟨_, rfl⟩
  have HA := Lib.hid hA
  have hsz : A.size = 11 := by rw [← hA]; rfl
  have h1c := oneA hA
  clear hA
  go_enter Try.func19, Try.ntmps19
  go_wp2
  go_loopg [2] L.length (fun gx i wr => ∃ (k : Nat) (ms : List (List Seen)), k + gx = L.length ∧ i = .int .i64 k ∧ Hid (ms.map List.length = L.map List.length) ∧ NewL tFrm 22 B wr (.slice ar L.length cr) ms ∧ Below B w wr)
  case atStart => exact ⟨0, L, by omega, rfl, Lib.hid rfl, HN.out, Below.refl _ _⟩
  case round =>
    obtain ⟨wo, rfl⟩ : ∃ wo : World, wo = wr := ⟨_, rfl⟩
    obtain ⟨k, ms, hk, rfl, HMS, hn, hb⟩ := hrel
    have HNO := Lib.hid hn
    have HB := Lib.hid hb
    clear hn hb
    by_cases hlt : k < L.length
    · have k0 : (0 : Int) ≤ (k : Int) := by omega
      have k1 : (k : Int) < (L.length : Int) := by omega
      go_wp2
      go_loopg [3] L[k].length (fun gx i wr => ∃ (j : Nat) (ms : List (List Seen)), j + gx = L[k].length ∧ i = .int .i64 j ∧ Hid (ms.map List.length = L.map List.length) ∧ NewL tFrm 22 B wr (.slice ar L.length cr) ms ∧ Below B w wr)
      case atStart => exact ⟨0, ms, by omega, rfl, HMS, HNO.out, HB.out⟩
      case round =>
        obtain ⟨wi, rfl⟩ : ∃ wi : World, wi = wr := ⟨_, rfl⟩
        obtain ⟨j, mz, hj, rfl, HMZ, hn, hb⟩ := hrel
        have HBI := Lib.hid hb
        obtain ⟨hkm, hlk⟩ := len_at HMZ.out hlt
        have HLK := Lib.hid hlk
        have HNI := Lib.hid hn
        obtain ⟨F, hF, hFn, hFb⟩ := hn
        have hmL : mz.length = L.length := by have := congrArg List.length HMZ.out; simpa using this
        have hFlt := hF.lt
        obtain ⟨rb, cap', cs, Fi, hv, hcap1, hcap2, he, hupi, -⟩ := hF.upd hFn k hkm
        rw [hmL] at hv
        injection hv with v1 v2 v3
        subst v1
        subst v3
        obtain ⟨hh, rfl, hfo⟩ := he.own
        have hcell : wi.cell? ⟨rb, k, none⟩ = some hh := by have := he.cell 0 (by decide); simpa [tFrm, Ty.list] using this
        obtain ⟨fa, fc, rfl, fq1, fq2⟩ := hfo.form
        unfold maxLen at fq2
        have HE := Lib.hid he
        have HUP := Lib.hid hupi
        have HFO := Lib.hid hfo
        have HFF := Lib.hid (show (∀ b ∈ F, B ≤ b) ∧ ∀ b ∈ F, b < wi.heap.size from ⟨hFb, hFlt⟩)
        rw [hlk] at hcell
        obtain ⟨n, hnn⟩ : ∃ n, L[k].length = n := ⟨_, rfl⟩
        have HNN := Lib.hid hnn
        have hnb : n ≤ 9223372036854775807 := by rw [← hnn, ← hlk]; omega
        rw [hnn] at hcell hj
        clear he hupi hfo hF hFn hFb hFlt hlk hb v2 hcap1 hcap2 fq1
        by_cases hjl : j < n
        · have j0 : (0 : Int) ≤ (j : Int) := by omega
          have j1 : (j : Int) < (n : Int) := by omega
          have hpos : 0 < mz[k].length := by rw [HLK.out, HNN.out]; omega
          obtain ⟨g, cap, cur, hv, -, hgs, hg, hcur, hst⟩ := OwnSl.storeA seenFlat (HFO.out.to HE.out.nodup (B := 0) (fun _ _ => Nat.zero_le _)) hpos
          injection hv with v1 v2 v3
          subst v1
          subst v3
          rw [HLK.out, HNN.out] at hcur
          have hgF : g ∈ Fi := HFO.out.blk g rfl
          have HST := Lib.hid (hst j A wiped (fun _ => True) (by rw [HLK.out, HNN.out]; exact hjl) (by rw [← HA.out]; exact tSeen_mk wiped_ok))
          have HG := Lib.hid hg
          have hcl : j * 11 + 11 ≤ cur.size := by
            have h1 : (j + 1) * 11 ≤ n * 11 := Nat.mul_le_mul_right _ hjl
            have h2 : n * 11 ≤ cur.size := hcur
            omega
          have HGF := Lib.hid hgF
          clear hst hg hcur hgF v2 hpos
          go_wp2_with (first
            | (refine wpList_storeA (.tmp 25) (.tmp 24) rfl 31 rfl rfl (A := A) Try.sizeOf31 hsz h1c rfl (by rw [← HA.out]; rfl) HG.out hcl ?_))
          have HHJ := Lib.hid hj
          go_roundg (n - (j + 1))
          case measure => omega
          case rel =>
            have h1 := HST.out
            rw [List.append_assoc] at h1
            obtain ⟨o1, o2, -⟩ := OwnL.ofOwn (B := 0) ownSeen h1
            obtain ⟨F', p1, p2, p3⟩ := HUP.out _ _ _ (fun b hb hb' => setRow_other _ _ _ _ (fun e => hb' (e ▸ HGF.out))) ⟨_, rfl, o1⟩ o2 (fun b hb => by
              have hbg : b = g := by simpa [Value.ownBlock] using hb
              subst hbg
              exact .inl HGF.out)
            refine ⟨j + 1, mz.set k (mz[k].set j wiped), by have := HNN.out; have := HHJ.out; omega, by go_num, Lib.hid (set_lens HMZ.out hkm (by simp)), ⟨F', p1, p2, fun b hb => ?_⟩, below_setRow HBI.out (Nat.le_trans hB HBI.out.size) (HFF.out.1 g (HE.out.sub g HGF.out))⟩
            rcases p3 b hb with q | q
            · exact HFF.out.1 b q
            · have hbg : b = g := by simpa [Value.ownBlock] using q
              subst hbg
              exact HFF.out.1 b (HE.out.sub b HGF.out)
        · have hkl : ¬ (j : Int) < (n : Int) := by omega
          have HNZ := Lib.hid (show NewL tFrm 22 B wi (.slice (some ⟨rb, 0, none⟩) L.length cr) mz from HNI.out)
          go_wp2
          go_roundg (L.length - (k + 1))
          case measure => omega
          case rel => exact ⟨k + 1, mz, by omega, by go_num, HMZ, HNZ.out, HBI.out⟩
    · have hkl : ¬ (k : Int) < (L.length : Int) := by omega
      go_wp2
      go_end0
      exact ⟨⟨_, rfl⟩, HB.out⟩
/-- a list of one frame of the call's own -/
theorem newl_one {e2 : TypeId} {B : Nat} {w : World} {v : Value} {f : List Seen} (h : OwnSl tSeen 31 B w v f) (hB : B ≤ w.heap.size) : NewL tFrm e2 B (w.alloc (.cells #[v] e2)) (.slice (some ⟨w.heap.size, 0, none⟩) 1 1) [f] := by
  obtain ⟨o1, o2, o3⟩ := OwnL.ofOwn ownSeen h
  have hlt := o1.lt
  refine ⟨[w.heap.size] ++ v.ownBlock.toList, ⟨[[v]], [v.ownBlock.toList], ?_, ⟨⟨v, rfl, o1.keep fun b hb => Below.heap_alloc _ _ _ (hlt b hb)⟩, trivial⟩, by simp [Value.ownBlock]⟩, ?_, fun b hb => ?_⟩
  · have hrow := World.ownsRow_lit (base := 0) (e := e2) (size := 1) w #[v] 1 (Nat.zero_le _) (by decide) rfl
    change World.ownsRow _ 0 e2 1 _ 1 _
    simpa using hrow
  · rw [List.nodup_append]
    exact ⟨by simp, o2, fun a ha b hb e => by simp at ha; have := hlt b hb; omega⟩
  · rcases List.mem_append.1 hb with hb | hb
    · simp at hb; omega
    · exact o3 b hb
set_option maxRecDepth 100000 in
set_option maxHeartbeats 2000000 in
theorem own_walk : LawWalk Try.prog 8 Try.f8 := by
  intro H enc W base args ds ps hval hA hsz
  rw [Try.params8] at hA hval
  obtain ⟨v0, v1, v2, d0, d1, d2, p0, p1, p2, rfl, rfl, rfl, h0, h1, h2⟩ := trodAll_three hA
  clear hA
  obtain ⟨l, hl⟩ := arg_slice Try.underlying22 (opensSeens (e := 31)) (hval 0 _ _ rfl rfl) h0
  have hv1 := hval 1 31 v1 rfl rfl
  obtain ⟨s, A, rfl, hA, hsok⟩ := arg_seenA hv1 h1
  obtain ⟨g, rfl, hg⟩ := arg_int Try.underlying3 (hval 2 _ _ rfl rfl) h2
  clear hval h0 h1 h2 hsz
  have n0 : SBox (W.alloc (.cells A 31)) W.heap.size s := by rw [← hA]; exact heap_alloc_new _ _
  obtain ⟨ao, cp, b, o, rfl, q1, q2, -⟩ := seen_row hl
  unfold maxLen at q2
  have HA := Lib.hid hA
  have HX := Lib.hid n0
  have HOK := Lib.hid hsok
  have HLL := Lib.hid hl
  have HG := Lib.hid hg
  have hasz : A.size = 11 := by rw [← hA]; rfl
  have h1c := oneA hA
  clear hl hg hsok hA n0
  go_enter Try.func8, Try.ntmps8
  by_cases hmost : (l.length : Int) > 40
  · go_wp2_with (fail)
    go_ret
    exact ⟨rfl, bl_alloc (Below.refl _ _) _⟩
  have HL40 := Lib.hid (show l.length ≤ 40 by omega)
  go_upto_region 3 with (fail)
  have HB0 := Lib.hid (bl_alloc (Below.refl W.heap.size W) (.cells A 31))
  obtain ⟨bx, hbx⟩ : ∃ b, W.heap.size = b := ⟨_, rfl⟩
  have HBX := Lib.hid hbx
  generalize W.alloc (.cells A 31) = w0 at HX HB0 ⊢
  rw [hbx] at HX ⊢
  have hl0 := SlIs.step HLL.out HB0.out
  have o0 : OwnSl tSeen 31 w0.heap.size (w0.alloc (.cells #[] 31)) (.slice (some ⟨w0.heap.size, 0, none⟩) 0 0) [] := OwnSl.lit (css := []) rfl trivial (Nat.le_refl _) (by decide)
  have H2 := Lib.hid (show SlIs tSeen (· < w0.heap.size) (w0.alloc (.cells #[] 31)) (.slice ao l.length cp) l from hl0.keep (fun _ h => h) (fun k hk => Below.heap_alloc _ _ _ hk))
  have HO := Lib.hid o0
  obtain ⟨R, hR⟩ : ∃ R, framesC g l = R := ⟨_, rfl⟩
  obtain ⟨R2, hR2⟩ : ∃ R2, framesC g (R.flatten ++ [s]) = R2 := ⟨_, rfl⟩
  have hrl : R.flatten.length < 59 := by rw [← hR, (framesC_perm g l).length_eq]; have := HL40.out; omega
  have HFR := Lib.hid (fun (v : Value) (w : World) (h : SlIs tSeen (· < w.heap.size) w v l) => Frames_any l g v w h (by have := HL40.out; omega) HG.out)
  have HIN := Lib.hid (fun (v : Value) (w : World) (h : SlIs tFrm (· < w.heap.size) w v R) => insert_any R s g v w h HOK.out hrl HG.out)
  rw [hR] at HFR
  rw [hR2, HA.out] at HIN
  clear o0 hl0 hR hR2 hrl hbx
  go_wp2_with (first
    | (at_builtin
       refine wpList_append_old (.tmp 15) (.tmp 16) rfl 22 rfl slSeen rfl HO.out rfl H2.out (small_bytes (k := 1000000) (by have := HL40.out; simp; omega) (by decide)) (by have := HL40.out; unfold maxLen; simp; omega) (by simp) ?_
       intro v1 w1 ho1 hg1 hb1
       rw [List.nil_append] at ho1
       have HO1 := Lib.hid ho1
       have HB1 := Lib.hid (show Below w0.heap.size w0 w1 from (bl_alloc (Below.refl _ _) _).trans hb1)
       obtain ⟨a1, c1, rfl, -⟩ := ho1.form
       clear ho1 hg1 hb1 HO)
    | (go_at_call 11
       with_reducible refine (HFR.out (.slice a1 l.length c1) w1 HO1.out.sl).mono ?_
       rintro e w2 ⟨⟨v2, rfl, hn2⟩, hb2⟩
       have HN2 := Lib.hid hn2
       have HB2 := Lib.hid hb2
       have ld := (HX.out.step (bl_trans HB1.out hb2)).load
       rw [HA.out] at ld
       obtain ⟨a2, c2, rfl, -⟩ := hn2.form
       clear hn2 hb2 H2)
    | (refine wpList_loadA _ rfl 31 rfl Try.isAgg31 Try.sizeOf31 rfl (by with_reducible assumption) ?_)
    | (go_at_call 15
       refine (HIN.out _ _ HN2.out.sl').mono ?_
       rintro e w3 ⟨⟨v3, rfl, hn3⟩, hb3⟩
       have HN3 := Lib.hid hn3
       have HB3 := Lib.hid hb3
       obtain ⟨a3, c3, rfl, -⟩ := hn3.form
       clear hn3 hb3 ld)
    | (go_at_call 19
       with_reducible refine (wipe_any R2 w2.heap.size (.slice a3 R2.length c3) w3 HN3.out HB3.out.size).mono ?_
       rintro e w4 ⟨⟨u4, rfl⟩, hb4⟩
       have HB4 := Lib.hid (HB3.out.trans hb4)
       have HBW := Lib.hid (HB0.out.trans (((bl_trans HB1.out HB2.out).trans ((HB3.out.trans hb4).mono (Nat.le_trans HB1.out.size HB2.out.size))).mono HB0.out.size))
       clear hb4 HN3 HB3)
    | (go_at_call 11
       with_reducible refine (HFR.out (.slice ao l.length cp) w4 (SlIs.step HLL.out HBW.out)).mono ?_
       rintro e w5 ⟨⟨v5, rfl, hn5⟩, hb5⟩
       have HN5 := Lib.hid hn5.sl'
       have HB5 := Lib.hid (bl_trans HB4.out hb5)
       obtain ⟨a5, c5, rfl, -⟩ := hn5.form
       clear hn5 hb5)
    | (go_at_call 10
       refine (sameF_any R R _ _ _ (HN2.out.below HB5.out).sl' HN5.out).mono ?_
       rintro e w6 ⟨rfl, hg6⟩
       have HB6 := Lib.hid (bl_trans HB5.out hg6.below)
       have hdt : decide (R = R) = true := by simp
       rw [hdt]
       clear hg6 hdt)
    | (go_at_call 19
       with_reducible refine (wipe_any R w1.heap.size (.slice a2 R.length c2) w6 (HN2.out.below HB6.out) (Nat.le_trans HB2.out.size HB6.out.size)).mono ?_
       rintro e w7 ⟨⟨u7, rfl⟩, hb7⟩
       have HB7 := Lib.hid (show Below w1.heap.size w1 w7 from (bl_trans HB2.out HB6.out).trans hb7)
       clear hb7)
    | (go_at_call 20
       refine (of_any l 1 (.slice a1 l.length c1) w7 (HO1.out.below HB7.out).sl (by have := HL40.out; omega)).mono ?_
       rintro e w8 ⟨⟨v8, rfl, ho8⟩, hb8⟩
       have HO8 := Lib.hid ho8
       have HB8 := Lib.hid hb8
       obtain ⟨a8, c8, rfl, -⟩ := ho8.form
       clear ho8 hb8)
    | (go_at_call 19
       with_reducible refine (wipe_any [l.filter fun x => x.kd == 1] w7.heap.size _ _ (newl_one HO8.out HB8.out.size) (by have := HB8.out.size; simp; omega)).mono ?_
       rintro e w9 ⟨⟨u9, rfl⟩, hb9⟩
       have HB9 := Lib.hid (bl_trans HB7.out ((bl_alloc HB8.out _).trans hb9))
       clear hb9)
    | (go_at_call 21
       refine (same_self (HO1.out.below HB9.out).sl (SlIs.step HLL.out (HB0.out.trans ((HB1.out.trans (HB9.out.mono HB1.out.size)).mono HB0.out.size)))).mono ?_
       rintro e w10 ⟨rfl, hg10⟩
       have HB10 := Lib.hid (bl_trans HB9.out hg10.below)
       clear hg10)
    | (go_at_call 13
       refine (alive_any _).mono ?_
       rintro e w11 ⟨rfl, hb11⟩
       have HB11 := Lib.hid (bl_trans HB10.out hb11)
       clear hb11))
  go_ret
  exact ⟨rfl, HB0.out.trans ((HB1.out.trans (HB11.out.mono HB1.out.size)).mono HB0.out.size)⟩
set_option maxRecDepth 100000 in
theorem own_lift (os : Os) (started : os.Started) (H : Type) (enc : TypeId × Value → H) :
    ReturnsInHanded {} Try.checked os 8 .any (Rows.groupOwnSpec.pre6 enc Try.prog Try.f8 Rows.groupOwnRow.domain false) (Rows.groupOwnSpec.post enc Try.prog Try.f8 false true false false) :=
  law_lift (C := Try.checked) (s := Rows.groupOwnSpec) (fn := Try.f8) ⟨rfl, fun H ds h => by
    match ds, h with
    | [a, b, c], _ => exact ⟨rfl, rfl, rfl⟩⟩ rfl Try.underlying4 (by kernel_rfl) laid0 own0 started (by kernel_rfl) Try.func8
    (ChangeSpec.witness6 (enc := enc) (C := Try.checked) false ⟨#[], #[.slice none 0 0, .agg #[.string ByteArray.empty, .int .i64 0, .int .i64 0, .string ByteArray.empty, .string ByteArray.empty, .int .i64 0, .int .i64 0, .int .i64 0, .string ByteArray.empty, .int .i64 0, .int .i64 0], .int .i64 0], []⟩ 8 (by kernel_rfl) (by kernel_rfl) (by kernel_rfl) (by kernel_rfl)) own_walk

/-- THE STATEMENT: GroupOwn. -/
theorem own_holds : Rows.GroupOwnSaid :=
  OpenClaim.holds_of_wide 8 Try.f8 rfl rfl rfl rfl rfl rfl rfl ⟨rfl, rfl, rfl, rfl, rfl⟩ rfl rfl rfl rfl rfl (by kernel_rfl) Try.func8 (by kernel_rfl)
    (of_decide_eq_true (by kernel_rfl)) (by unfold Func.isWrapper; rw [if_neg (of_decide_eq_false (by kernel_rfl))]; exact ⟨rfl, rfl⟩)
    (fun os started H enc _ => own_lift os started H enc)
end Go.Proofs.Ytffpnbipacgidaa
