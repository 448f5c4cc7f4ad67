/-
  Layer 14 (group): the walk of the iterator frames$1.
-/
import Derived.Test.YtelnnjofccldgaaGreatDoorGrpOf0
import Derived.RangeFuncLeaves
import Derived.RangeFuncOwn
import Derived.WalkMore
import Derived.LoopNIn
import Derived.LoopIn
import Derived.OwnWalkIn
import Derived.TacticsInMore
namespace Go.Tw.Grp
open Go.RowKit Go.Tw Go.Sort Go.Tw.Ord
def tFrm : Ty (List Seen) := tSeen.list 63
theorem runF_take {g : Int} {l : List Seen} {k : Nat} (h : k < l.length) : runF g [] (l.take (k + 1)) = addF g (runF g [] (l.take k)) l[k] := by
  rw [List.take_succ_eq_append_getElem h]
  unfold runF
  rw [List.foldl_append]
  rfl
theorem addF_ne {g : Int} {out : List (List Seen)} {s : Seen} (h : ∀ f ∈ out, f ≠ []) : ∀ f ∈ addF g out s, f ≠ [] := by
  intro f hf
  unfold addF at hf
  split at hf
  · rcases List.mem_or_eq_of_mem_set hf with hf | rfl
    · exact h f hf
    · simp
  · rcases List.mem_append.1 hf with hf | hf
    · exact h f hf
    · simp at hf; rw [hf]; simp
theorem runF_ne {g : Int} : ∀ (l : List Seen) (out : List (List Seen)), (∀ f ∈ out, f ≠ []) → ∀ f ∈ runF g out l, f ≠ []
  | [], _, h => h
  | _ :: l, _, h => runF_ne l _ (addF_ne h)
theorem runF_len {g : Int} : ∀ (l : List Seen) (out : List (List Seen)), (runF g out l).length ≤ out.length + l.length
  | [], _ => by simp [runF]
  | s :: l, out => by
    have := runF_len (g := g) l (addF g out s)
    have h2 : (addF g out s).length ≤ out.length + 1 := by
      unfold addF
      split <;> simp
    show (runF g (addF g out s) l).length ≤ _
    simp only [List.length_cons]
    omega
theorem mem_len_flat {f : List Seen} : ∀ {out : List (List Seen)}, f ∈ out → f.length ≤ out.flatten.length
  | [], h => absurd h List.not_mem_nil
  | x :: out, h => by
    rw [List.flatten_cons, List.length_append]
    rcases List.mem_cons.1 h with rfl | h
    · omega
    · have := mem_len_flat h; omega
theorem runF_mem_len {g : Int} {l : List Seen} {f : List Seen} (h : f ∈ runF g [] l) : f.length ≤ l.length := by
  have := mem_len_flat h
  rw [(runF_perm g l []).length_eq] at this
  simpa using this
/-- how many rounds are left -/
def lft (n : Nat) : Value → Nat
  | .int _ i => n - i.toNat
  | _ => 0
end Go.Tw.Grp
namespace Go.Proofs.YtelnnjofccldgaaGreatDoor
open Go.RowKit Go.Tw Go.Tw.Ord Go.Tw.Grp Go.Sort
theorem slFrm : SlT Tryz.prog 83 65 1 24 := SlT.of (z := .slice none 0 0) Tryz.underlying83 (by kernel_rfl) rfl (by decide)
/-- what a frame's last detection is, in memory -/
theorem frm_last {S : Nat → Prop} {w : World} {hv : Value} {f : List Seen} (h : SlIs tSeen S w hv f) (hf : f ≠ []) : ∃ b o cap, hv = .slice (some ⟨b, o, none⟩) f.length cap ∧ S b ∧ b < w.heap.size ∧ SeenOk (lastS f) ∧ 0 < f.length ∧ f.length ≤ maxLen ∧ ∀ j, j < 11 → w.cell? ⟨b, o + (f.length - 1) * 11 + j, none⟩ = (sCells (lastS f))[j]? := by
  have hl := List.length_pos_iff.2 hf
  obtain ⟨ao, cap, b, o, rfl, h1, h2, h3⟩ := seen_row h
  obtain ⟨rfl, q1, q2, q3, q4⟩ := h3 w (SameOn.refl _ _) (f.length - 1) (by omega)
  rw [lastS_get hf]
  exact ⟨b, o, cap, rfl, q1, q2, q3, hl, by omega, q4⟩
set_option maxRecDepth 100000 in
set_option maxHeartbeats 8000000 in
theorem frames1_any (ly : Nat) (l : List Seen) (g : Int) (v : Value) (bl bg : Nat) (J : Value → Nat → World → Prop) (w : World) (h : SlIs tSeen (· < w.heap.size) w v l) (hl : l.length < 60) (hg : i64ok g) (hbl : w.cell? ⟨bl, 0, none⟩ = some v) (hbg : w.cell? ⟨bg, 0, none⟩ = some (.int .i64 g))
    (hstart : ∀ ov W0, NewL tFrm 65 w.heap.size W0 ov (framesC g l) → Below w.heap.size w W0 → J ov 0 W0)
    (hread : ∀ ov k W1, J ov k W1 → NewL tFrm 65 w.heap.size W1 ov (framesC g l))
    (hyield : ∀ m ov k W1 rb cap hv, J ov k W1 → k < (framesC g l).length → ov = .slice (some ⟨rb, 0, none⟩) (framesC g l).length cap → W1.cell? ⟨rb, k, none⟩ = some hv → YieldAt Fence.wide m Tryz.prog ly #[hv] W1 fun e W' => e = .returned (.bool true) ∧ J ov (k + 1) W') :
    Calls Tryz.prog 78 #[.func (.yield ly) #[] #[], .pointer (some ⟨bl, 0, none⟩), .pointer (some ⟨bg, 0, none⟩)] w fun e W' => (∃ v, e = .returned v) ∧ ∃ ov, J ov (framesC g l).length W' := by
  obtain ⟨av, cv, _, _, rfl, -, -, -⟩ := id h
  have HH := Lib.hid h
  have HST := Lib.hid hstart
  have HRD := Lib.hid hread
  have HYD := Lib.hid hyield
  have HBL := Lib.hid hbl
  have HBG := Lib.hid hbg
  have HLL := Lib.hid hl
  have HGG := Lib.hid hg
  clear h hstart hread hyield hbg hg hl
  go_enter Tryz.func78, Tryz.ntmps78
  (try go_step3)
  go_wp2_with (fail)
  refine (sClone_own l _ w HH.out (by have := HLL.out; omega)).mono ?_
  rintro e w1 ⟨⟨v1, rfl, ho1⟩, hb1⟩
  have HO1 := Lib.hid ho1
  have HB1 := Lib.hid hb1
  obtain ⟨a1, c1, rfl, -⟩ := ho1.form
  clear ho1 hb1
  go_wp2_with (fail)
  refine (sortS_any l _ w.heap.size w1 HO1.out HB1.out.size HLL.out).mono ?_
  rintro e w2 ⟨rfl, hs2, hb2⟩
  obtain ⟨ao, cp, b, o, hv, h1, h2, ho⟩ := seen_row hs2
  injection hv with e1 e2 e3
  subst e1
  subst e3
  clear e2
  have hsl := sortS_len l
  obtain ⟨S, hS⟩ : ∃ S, sortS l = S := ⟨_, rfl⟩
  have HFR := Lib.hid (show framesC g l = runF g [] S from by rw [← hS]; rfl)
  rw [hS] at hsl h1 ho
  rw [← hsl]
  have HSO := Lib.hid ho
  have HB2 := Lib.hid (show Below w.heap.size w w2 from HB1.out.trans hb2)
  have HSL := Lib.hid hsl
  have hS60 : S.length < 60 := by rw [hsl]; exact HLL.out
  clear hs2 hb2 ho HO1 HB1 hS hsl hbl
  go_wp2
  go_step3
  go_wp2
  go_loopg [5, 18] S.length (fun gx sv i wr => ∃ k : Nat, k + gx = S.length ∧ i = .int .i64 k ∧ NewL tFrm 65 w2.heap.size wr sv (runF g [] (S.take k)) ∧ Below w2.heap.size w2 wr)
  case atStart => exact ⟨0, by omega, rfl, NewL.nil, Below.refl _ _⟩
  case round =>
    obtain ⟨k, hk, rfl, hnew, hb⟩ := hrel
    obtain ⟨fs, hfs⟩ : ∃ fs, runF g [] (S.take k) = fs := ⟨_, rfl⟩
    have hne := runF_ne (g := g) (S.take k) [] (by simp)
    have hfl := runF_len (g := g) (S.take k) []
    have hml := fun f (hf : f ∈ runF g [] (S.take k)) => runF_mem_len hf
    rw [hfs] at hne hfl hml hnew
    have hfl' : fs.length < 60 := by
      have : (S.take k).length ≤ S.length := by simp; omega
      simp only [List.length_nil] at hfl
      omega
    have HNE := Lib.hid hne
    have HML := Lib.hid (show ∀ f ∈ fs, f.length < 60 from fun f hf => Nat.lt_of_le_of_lt (hml f hf) (by simp; omega))
    have HFS := Lib.hid hfs
    have HNW := Lib.hid hnew
    have HBR := Lib.hid hb
    obtain ⟨ar, cr, rfl, hr1, hr2⟩ := hnew.form
    clear hne hml hfs hfl
    by_cases hlt : k < S.length
    · obtain ⟨rfl, hbS, hbk, hok, hc⟩ := HSO.out wr ((SameOn.of_below hb).mono fun j hj => hj.2) k hlt
      have ld := load_seen (x := S[k]) Tryz.prog hc
      have k0 : (0 : Int) ≤ (k : Int) := by omega
      have k1 : (k : Int) < (S.length : Int) := by omega
      have HTK := Lib.hid (show runF g [] (S.take (k + 1)) = addF g fs S[k] from by rw [runF_take hlt, HFS.out])
      obtain ⟨s, hs⟩ : ∃ s, S[k] = s := ⟨_, rfl⟩
      rw [hs] at ld hok HTK
      obtain ⟨A, hA⟩ : ∃ A, (sCells s).toArray = A := ⟨_, rfl⟩
      rw [hA] at ld
      have hsz : A.size = 11 := by rw [← hA]; rfl
      have h1c := oneA hA
      have HA := Lib.hid hA
      have HOK := Lib.hid hok
      have hbx : SBox (wr.alloc (.cells A 63)) wr.heap.size s := by rw [← hA]; exact heap_alloc_new _ _
      have HBX := Lib.hid hbx
      have hsB := hb.size
      clear hA hc hs hok hbx hb hnew hbS hbk
      go_wp2_with (first
        | (refine wpList_loadA _ rfl 63 rfl Tryz.isAgg63 Tryz.sizeOf63 rfl (by with_reducible assumption) ?_)
        | (refine wpList_newA 7 rfl (.tmp 21) rfl rfl 63 rfl rfl rfl Tryz.sizeOf63 Tryz.zeroValue63 rfl (by with_reducible assumption) (by with_reducible assumption) (by simp [Act.put]) rfl ?_))
      clear ld
      obtain ⟨w3, hw3⟩ : ∃ w3, wr.alloc (.cells A 63) = w3 := ⟨_, rfl⟩
      obtain ⟨bs, hbs⟩ : ∃ b, wr.heap.size = b := ⟨_, rfl⟩
      have HB3 := Lib.hid (show Below wr.heap.size wr w3 from by rw [← hw3]; exact bl_alloc (Below.refl _ _) _)
      have hsb3 : bs < w3.heap.size := by rw [← hw3, ← hbs]; simp
      rw [hw3] at HBX ⊢
      rw [hbs] at HBX ⊢
      clear hw3
      have HLG := Lib.hid (show bg < w3.heap.size from Nat.lt_of_lt_of_le (lt_of_cell HBG.out) (Nat.le_trans HB2.out.size (Nat.le_trans HBR.out.size HB3.out.size)))
      have HCG := Lib.hid (show w3.cell? ⟨bg, 0, none⟩ = some (.int .i64 g) from ((bl_trans HBR.out HB3.out).cell (p := ⟨bg, 0, none⟩) (Nat.lt_of_lt_of_le (lt_of_cell HBG.out) HB2.out.size)).trans ((HB2.out.cell (p := ⟨bg, 0, none⟩) (lt_of_cell HBG.out)).trans HBG.out))
      go_loopg [24] fs.length (fun gx i wx => ∃ j : Nat, j + gx = fs.length ∧ i = .int .i64 j ∧ Hid (∀ j' (h : j' < fs.length), j' < j → closeC g (lastS fs[j']) s = false) ∧ Below w3.heap.size w3 wx)
      case atStart => exact ⟨0, by omega, rfl, fun j' h h' => by omega, Below.refl _ _⟩
      case round =>
        obtain ⟨j, hj, rfl, HNC, hbx⟩ := hrel
        have HX3 := Lib.hid hbx
        have HNX := Lib.hid (HNW.out.below (bl_trans HB3.out hbx))
        clear hbx
        by_cases hjl : j < fs.length
        · have j0 : (0 : Int) ≤ (j : Int) := by omega
          have j1 : (j : Int) < (fs.length : Int) := by omega
          obtain ⟨F, hF, hFn, hFb⟩ := HNX.out
          obtain ⟨rb, cap', cs, Fi, hv, hcap1, hcap2, he, -, hupd⟩ := hF.upd hFn j hjl
          injection hv with v1 v2 v3
          subst v1
          subst v3
          obtain ⟨hh, rfl, hfo⟩ := he.own
          have hcell : wr.cell? ⟨rb, j, none⟩ = some hh := by have := he.cell 0 (by decide); simpa [tFrm, Ty.list] using this
          have hfe : fs[j] ≠ [] := HNE.out _ (List.getElem_mem hjl)
          have hF60 := HML.out fs[j] (List.getElem_mem hjl)
          obtain ⟨fb, fo, fc, rfl, hfS, hfb, hlok, hfl0, hfm, hlc⟩ := frm_last hfo.sl hfe
          have HFO := Lib.hid hfo
          have HE := Lib.hid he
          have HUP := Lib.hid hupd
          have HFF := Lib.hid (show (∀ b ∈ F, w2.heap.size ≤ b) ∧ ∀ b ∈ F, b < wr.heap.size from ⟨hFb, hF.lt⟩)
          obtain ⟨n1, hn1⟩ : ∃ n1, fs[j].length = n1 + 1 := ⟨fs[j].length - 1, by omega⟩
          obtain ⟨Bv, hBv⟩ : ∃ B, (sCells (lastS fs[j])).toArray = B := ⟨_, rfl⟩
          obtain ⟨cl, hcl⟩ : ∃ c, closeC g (lastS fs[j]) s = c := ⟨_, rfl⟩
          have LD1 := Lib.hid (show ∀ n os, Sem.run Tryz.prog (loadCellsFrom ⟨fb, fo + n1 * 11, none⟩ 0 11 #[]) (grow (wr.drewN n) os) = .ok Bv (grow (wr.drewN n) os) from fun n os => by
            rw [← hBv]
            exact load_seen _ fun jj hjj => ((GrB.below ⟨n, os, rfl⟩).cell (p := ⟨fb, fo + n1 * 11 + jj, none⟩) hfb).trans (by have := hlc jj hjj; rw [hn1] at this; simpa using this))
          have LD2 := Lib.hid (show ∀ n os, Sem.run Tryz.prog (loadCellsFrom ⟨bs, 0, none⟩ 0 11 #[]) (grow (wr.drewN n) os) = .ok A (grow (wr.drewN n) os) from fun n os => by
            rw [← HA.out]
            exact (HBX.out.step (bl_trans HX3.out (GrB.below ⟨n, os, rfl⟩))).load)
          have cg := fun n os => ((GrB.below (a := wr) (b := grow (wr.drewN n) os) ⟨n, os, rfl⟩).cell (p := ⟨bg, 0, none⟩) (Nat.lt_of_lt_of_le HLG.out HX3.out.size)).trans ((HX3.out.cell (p := ⟨bg, 0, none⟩) HLG.out).trans HCG.out)
          have HCL := Lib.hid (show ∀ n os, Calls Tryz.prog 80 #[.agg Bv, .agg A, .int .i64 g] (grow (wr.drewN n) os) fun e w' => e = .returned (.bool cl) ∧ ∃ q os', w' = grow ((grow (wr.drewN n) os).drewN q) os' from fun n os => by
            rw [← hBv, ← HA.out, ← hcl]
            exact close_any _ _ g _ hlok HOK.out HGG.out)
          have HCC := Lib.hid hcl
          rw [hn1] at hF60
          have HN1 := Lib.hid hn1
          have hz1 : (n1 : Int) + 1 - 1 = (n1 : Int) := by omega
          have hwn : IntKind.i64.wrap (n1 : Int) = (n1 : Int) := wrap_in (by omega) (by omega)
          have hn0 : (0 : Int) ≤ (n1 : Int) := by omega
          have hn2 : (n1 : Int) < (n1 : Int) + 1 := by omega
          rw [hn1] at hcell
          clear hfo he hupd hF hFn hFb hn1 hBv hcl hlc hfe hfl0 hfm hlok hfS
          go_upto_region 9 with (fail)
          refine wp_region_quiet_grown (by kernel_rfl) (by kernel_rfl) ?_
          (iterate 5 (quiet_step (fail)))
          refine wpQuiet_step (fun K hK => ?_)
          rw [if_pos (show _ = true by kernel_rfl)]
          refine quiet_loadA (A := Bv) rfl Tryz.isAgg63 Tryz.sizeOf63 rfl (fun w' hw' => ?_) (hK _ ?_)
          · obtain ⟨⟨nq, osq⟩, rfl⟩ := hw'
            exact LD1.out nq osq
          clear hK K
          refine wpQuiet_step (fun K hK => ?_)
          rw [if_pos (show _ = true by kernel_rfl)]
          refine quiet_loadA (A := A) rfl Tryz.isAgg63 Tryz.sizeOf63 rfl (fun w' hw' => ?_) (hK _ ?_)
          · obtain ⟨⟨nq, osq⟩, rfl⟩ := hw'
            exact LD2.out nq osq
          clear hK K
          quiet_step (fail)
          quiet_step ((go_at_call 80; exact Calls.grown_of (HCL.out _ _)))
          refine wpQuiet_nil ?_
          intro _ hw'
          obtain ⟨⟨nq, osq⟩, hw''⟩ := hw'
          subst hw''
          have ldq := LD2.out nq osq
          have hgq : GrB wr (grow (wr.drewN nq) osq) := ⟨nq, osq, rfl⟩
          clear cg LD1 LD2 HCL
          generalize grow (wr.drewN nq) osq = wq at ldq hgq ⊢
          have HGQ := Lib.hid hgq.below
          clear hgq
          cases cl with
          | false =>
            go_wp2_with (fail)
            go_roundg (fs.length - (j + 1))
            case measure => omega
            case rel => exact ⟨j + 1, by omega, by go_num, fun j' h h' => by
              by_cases e : j' = j
              · subst e; exact HCC.out
              · exact HNC.out j' h (by omega), bl_trans HX3.out HGQ.out⟩
          | true =>
            have hFw : ∀ b ∈ Fi, b ∈ F := HE.out.sub
            have hkp : ∀ b ∈ F, wq.heap[b]? = wr.heap[b]? := fun b hb => HGQ.out.block b (HFF.out.2 b hb)
            have HFQ := Lib.hid (show OwnL tSeen 63 Fi wq (.slice (some ⟨fb, fo, none⟩) (n1 + 1) fc) fs[j] from by
              have := HFO.out.keep (w' := wq) (fun b hb => hkp b (hFw b hb))
              rw [HN1.out] at this
              exact this)
            have hsq := HGQ.out.size
            have HSQ := Lib.hid hsq
            clear hkp hFw hsq
            go_wp2_with (first
              | (refine wpList_loadA _ rfl 63 rfl Tryz.isAgg63 Tryz.sizeOf63 rfl (by with_reducible assumption) ?_)
              | (refine wpList_buildA _ rfl 65 rfl Tryz.underlying65 Tryz.sizeOf63 Tryz.zeroValue63 (by decide) (by decide) rfl (by with_reducible assumption) ?_)
              | (at_builtin
                 refine wpList_append_L (.tmp 40) (.tmp 42) rfl 65 rfl slSeen (x := s) (F1 := []) rfl HFQ.out HE.out.nodup rfl (by rw [← HA.out]; exact tSeen_own_mk HOK.out) List.nodup_nil (fun b hb => absurd hb List.not_mem_nil) (small_bytes (k := 1001) (by rw [HN1.out]; omega) (by decide)) (by rw [HN1.out]; unfold maxLen; omega) ?_
                 intro v7 w7 F7 ho7 hn7 hf7 hg7
                 obtain ⟨a7, c7, rfl, -⟩ := ho7.form
                 have hbk7 : ∀ b ∈ F, b ∉ Fi → w7.heap[b]? = wr.heap[b]? := fun b hb hb' => by
                   have hbw := HFF.out.2 b hb
                   have h1 := hg7.block b (by have := HSQ.out; simp; omega) (fun e => hb' (HFQ.out.blk b e.symm))
                   rw [h1, Below.heap_alloc _ _ _ (by have := HSQ.out; omega)]
                   exact HGQ.out.block b hbw
                 have hrb := hbk7 rb HE.out.mem HE.out.out
                 have c7c : w7.cell? ⟨rb, j, none⟩ = some (.slice (some ⟨fb, fo, none⟩) (n1 + 1) fc) := (World.cell?_of_block (w := wr) hrb).trans hcell
                 have c7f : w7.frozen? ⟨rb, j, none⟩ = false := (World.frozen?_of_block (w := wr) hrb).trans (HE.out.free j)
                 have HO7 := Lib.hid ho7
                 have HN7 := Lib.hid hn7
                 have HF7 := Lib.hid hf7
                 have HG7 := Lib.hid hg7
                 have HK7 := Lib.hid hbk7
                 clear ho7 hn7 hf7 hg7 hbk7 hrb))
            go_roundg (S.length - (k + 1))
            case measure => omega
            case rel =>
              have hupd := HUP.out w7 F7 (fs[j] ++ [s]) 0 _ HK7.out (by decide) ⟨_, rfl, HO7.out⟩ HN7.out (fun b hb => by
                rcases HF7.out b hb with q | q | q
                · exact .inl q
                · exact absurd q List.not_mem_nil
                · exact .inr fun hF => by have := HFF.out.2 b hF; have := HSQ.out; omega)
              obtain ⟨F8, hO8, hN8, hM8⟩ := hupd
              have hrbB : w2.heap.size ≤ rb := HFF.out.1 rb HE.out.mem
              have hb7 : Below w2.heap.size w2 w7 := (bl_trans HBR.out (bl_trans HB3.out (bl_trans HX3.out HGQ.out))).trans (((Below.refl w2.heap.size wq).alloc (by have := HBR.out.size; have := HB3.out.size; have := HX3.out.size; have := HSQ.out; omega) _).trans (Below.of_grown HG7.out (by have := HBR.out.size; have := HB3.out.size; have := HX3.out.size; have := HSQ.out; simp; omega) (fun k' hk' => HFF.out.1 k' (HE.out.sub k' (HFQ.out.blk k' hk')))))
              refine ⟨k + 1, by omega, by go_num, ?_, bl_set hb7 _ hrbB⟩
              rw [HTK.out, addF_at hjl HCC.out fun j' hj' => HNC.out j' (by omega) hj']
              refine ⟨F8, ?_, hN8, fun b hb => ?_⟩
              · have e : j * tFrm.sz + 0 = j := by show j * 1 + 0 = j; omega
                rw [e] at hO8
                have e3 : (fs[j] ++ [s]).length = fs[j].length + 1 := by simp
                rw [e3] at hO8
                exact hO8
              · rcases hM8 b hb with q | q
                · exact HFF.out.1 b q
                · rcases HF7.out b q with q | q | q
                  · exact HFF.out.1 b (HE.out.sub b q)
                  · exact absurd q List.not_mem_nil
                  · have := HBR.out.size; have := HB3.out.size; have := HX3.out.size; have := HSQ.out; omega
        · obtain rfl : j = fs.length := by omega
          have hkl : ¬ (fs.length : Int) < (fs.length : Int) := by omega
          have hbx3 := HBX.out.step HX3.out
          have ldq := hbx3.load
          rw [HA.out] at ldq
          clear hbx3 hjl hj
          have HNEW := Lib.hid (show New tFrm wr.heap.size (wr.alloc (.cells A 63)) [.slice (some ⟨wr.heap.size, 0, none⟩) 1 1] [s] from by
            refine ⟨[wr.heap.size], ⟨_, rfl, ⟨[sCells s], [[]], ?_, ⟨tSeen_own_mk HOK.out, trivial⟩, rfl⟩⟩, by simp, by simp⟩
            have hrow := World.ownsRow_lit (base := 0) (e := 63) (size := 11) wr A 1 (Nat.zero_le _) (by decide) (by rw [← HA.out]; rfl)
            have e1 : A.toList = [sCells s].flatten := by rw [← HA.out]; simp
            rw [e1] at hrow
            exact hrow)
          go_wp2_with (first
            | (refine wpList_loadA _ rfl 63 rfl Tryz.isAgg63 Tryz.sizeOf63 rfl (by with_reducible assumption) ?_)
            | (refine wpList_buildA _ rfl 65 rfl Tryz.underlying65 Tryz.sizeOf63 Tryz.zeroValue63 (by decide) (by decide) rfl (by with_reducible assumption) ?_)
            | (at_builtin
               refine wpList_append_new (.tmp 46) (.tmp 49) rfl 83 rfl slFrm (x := [s]) (B := w2.heap.size) (w1 := wr) rfl HNX.out (bl_alloc (Below.refl _ _) _) (by rw [World.size_alloc]; rfl) ?_ (small_bytes (k := 1001) (by omega) (by decide)) (by unfold maxLen; omega) (by have := HBR.out.size; have := HB3.out.size; have := HX3.out.size; omega) ?_
               exact HNEW.out
               intro v7 w7 hn7 hb7
               have HN7 := Lib.hid hn7
               have HB7 := Lib.hid hb7
               clear hn7 hb7))
          go_roundg (S.length - (k + 1))
          case measure => omega
          case rel => exact ⟨k + 1, by omega, by go_num, by rw [HTK.out, addF_no fun j' hj' => HNC.out j' hj' hj']; exact HN7.out, (bl_trans HBR.out (bl_trans HB3.out (bl_alloc HX3.out _))).trans HB7.out⟩
    · obtain rfl : k = S.length := by omega
      have hkl : ¬ (S.length : Int) < (S.length : Int) := by omega
      have hfin : fs = framesC g l := by rw [HFR.out, ← HFS.out, List.take_length]
      have HJ0 := Lib.hid (show J (.slice ar fs.length cr) 0 wr from HST.out _ _ (by rw [← hfin]; exact HNW.out.mono HB2.out.size) (HB2.out.trans (HBR.out.mono HB2.out.size)))
      have hlen : (framesC g l).length = fs.length := by rw [hfin]
      have HLEN := Lib.hid hlen
      clear hlt hk hfin hnew hb hlen
      go_wp2_with (fail)
      refine (wpIn_wide (n := 5)).1 ?_
      gi_loopw [54] (fun i wx => ∃ j : Nat, i = .int .i64 j ∧ j ≤ fs.length ∧ J (.slice ar fs.length cr) j wx) (fun i _ => lft fs.length i)
      case atStart => exact ⟨0, rfl, by omega, HJ0.out⟩
      case round =>
        obtain ⟨j, rfl, hj, hJ⟩ := hrel
        by_cases hjl : j < fs.length
        · have j0 : (0 : Int) ≤ (j : Int) := by omega
          have j1 : (j : Int) < (fs.length : Int) := by omega
          obtain ⟨F, hF, hFn, hFb⟩ := HRD.out _ _ _ hJ
          obtain ⟨rb, cap', cs, Fi, hv, hcap1, hcap2, he, -, hupd⟩ := hF.upd hFn j (by rw [HLEN.out]; exact hjl)
          injection hv with v1 v2 v3
          subst v1
          subst v3
          obtain ⟨hh, rfl, hfo⟩ := he.own
          have hcell : wr.cell? ⟨rb, j, none⟩ = some hh := by have := he.cell 0 (by decide); simpa [tFrm, Ty.list] using this
          obtain ⟨fa, fc, rfl, -⟩ := hfo.form
          obtain ⟨fn, tmps, assign, body, hy, hR⟩ := HYD.out 4 _ _ _ rb cr _ hJ (by rw [HLEN.out]; exact hjl) (by rw [HLEN.out]) hcell
          clear hfo he hupd hF hFn hFb hcap1 hcap2 v2 hJ
          gi_wp2
          refine hR.mono ?_
          rintro e W3 ⟨rfl, hJ3⟩
          have HJ3 := Lib.hid hJ3
          clear hJ3 hR hy hcell
          gi_wp2
          go_roundw
          case rel => exact ⟨j + 1, by go_num, by omega, HJ3.out⟩
          case measure => simp only [lft]; omega
        · obtain rfl : j = fs.length := by omega
          have hkl2 : ¬ (fs.length : Int) < (fs.length : Int) := by omega
          have HJ3 := Lib.hid hJ
          clear hJ hjl hj
          gi_wp2
          go_end0
          exact ⟨⟨_, rfl⟩, _, by rw [HLEN.out]; exact HJ3.out⟩
end Go.Proofs.YtelnnjofccldgaaGreatDoor
