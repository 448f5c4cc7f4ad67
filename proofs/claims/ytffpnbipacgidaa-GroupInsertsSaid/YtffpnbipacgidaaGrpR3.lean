/-
  Layer 14: the walk of the reference's Frames.
-/
import Derived.Test.YtffpnbipacgidaaGrpR2
import Derived.Test.YtffpnbipacgidaaGrpI
namespace Go.Proofs.Ytffpnbipacgidaa
open Go.RowKit Go.Tw Go.Tw.Ord Go.Tw.Grp Go.Sort
theorem wp_append_L {α : Type} {T : Ty α} {e : TypeId} {F : List Nat} {w : World} {v : Value} {l : List α} {P : Program} {o : Oper} {a : Act} {K : Act → World → Prop} {Q : Exit → Act → World → Prop} (s y : Operand) (t : TypeId)
    (ho : o.op = .call { callee := .builtin .append, args := #[s, y], argTypes := #[t, t] }) {e' : TypeId} {bytes : Nat} (hT : SlT P t e T.sz bytes) {cs : Array Value} {F1 : List Nat} {x : α} (hs : a.eval s = v) (hown : OwnL T e F w v l) (nd : F.Nodup)
    (hy : a.eval y = .slice (some ⟨w.heap.size, 0, none⟩) 1 1) (hx : T.own F1 w cs.toList x) (nd1 : F1.Nodup) (hd : ∀ b ∈ F1, b ∉ F)
    (hbytes : (l.length + 1) * bytes ≤ 140737488355328) (h63 : l.length + 1 ≤ maxLen)
    (h : ∀ v' w' F', OwnL T e F' w' v' (l ++ [x]) → F'.Nodup → (∀ b ∈ F', b ∈ F ∨ b ∈ F1 ∨ w.heap.size < b) → (w.alloc (.cells cs e')).grownBy w' v.ownBlock → K (a.put o.dst v') w') : o.wp P a (w.alloc (.cells cs e')) K Q := by
  obtain ⟨v', w', F', hr, h2, h3, h4, h5⟩ := run_append_L (P := P) (ty := o.type) (e' := e') hT hown nd hx nd1 hd hbytes h63
  unfold Oper.wp execOp
  simp only [ho, resolve, invoke, builtin, Sem.run_bind, Sem.run_pure, Result.andThen_ok, List.map_toArray, List.map_cons, List.map_nil, hs, hy, hr]
  exact h v' w' F' h2 h3 h4 h5
set_option maxRecDepth 100000 in
set_option maxHeartbeats 3000000 in
theorem FramesR_any (l : List Seen) (g : Int) (v : Value) (w : World) (h : SlIs tSeen (· < w.heap.size) w v l) (hl : l.length < 60) (hg : i64ok g) :
    Calls Try.prog 12 #[v, .int .i64 g] w fun e w' => (∃ v', e = .returned v' ∧ NewL tFrm 22 w.heap.size w' v' (framesC g l)) ∧ Below w.heap.size w w' := by
  obtain ⟨ai, ci, _, _, rfl, -, -, -⟩ := id h
  have HH := Lib.hid h
  have HLL := Lib.hid hl
  have HGG := Lib.hid hg
  have HSR := Lib.hid (fun (w : World) (h : SlIs tSeen (· < w.heap.size) w (.slice ai l.length ci) l) => sortR_any l _ w h (by have := HLL.out; omega))
  have htm := sortS_tm l
  have hsl := sortS_len l
  obtain ⟨S, hS⟩ : ∃ S, sortS l = S := ⟨_, rfl⟩
  have HFR := Lib.hid (show framesC g l = runF g [] S from by rw [← hS]; rfl)
  rw [hS] at HSR htm hsl
  have HSF := Lib.hid (fun (k : Nat) (hk : k < S.length) => runF_finv (g := g) htm hk)
  have hS60 : S.length < 60 := by rw [hsl]; exact HLL.out
  clear h hl hg hS htm hsl
  go_enter Try.func12, Try.ntmps12
  go_wp2_with (go_at_call 30
               refine (HSR.out w HH.out).mono ?_
               rintro e w2 ⟨⟨v2, rfl, hs2⟩, hb2⟩
               have HS2 := Lib.hid hs2
               have HB2 := Lib.hid hb2
               obtain ⟨ao, cp, b, o, rfl, h1, h2, ho⟩ := seen_row hs2
               unfold maxLen at h2
               have HSO := Lib.hid ho
               clear hs2 hb2 ho)
  clear HSR
  go_loopg [5, 7] S.length (fun gx sv i wr => ∃ k : Nat, k + gx = S.length ∧ i = .int .i64 k ∧ NewL tFrm 22 w2.heap.size wr sv (runF g [] (S.take k)) ∧ Below w2.heap.size w2 wr)
  case atStart => exact ⟨0, by omega, rfl, NewL.nil, Below.refl _ _⟩
  case round =>
    obtain ⟨wo, rfl⟩ : ∃ wo : World, wo = wr := ⟨_, rfl⟩
    obtain ⟨k, hk, rfl, hnew, hb⟩ := hrel
    obtain ⟨fs, hfs⟩ : ∃ fs, runF g [] (S.take k) = fs := ⟨_, rfl⟩
    have hne := runF_ne (g := g) (S.take k) [] (by simp)
    have hfl := runF_len (g := g) (S.take k) []
    have hml := fun f (hf : f ∈ runF g [] (S.take k)) => runF_mem_len hf
    rw [hfs] at hne hfl hml hnew
    have hfl' : fs.length < 60 := by
      have : (S.take k).length ≤ S.length := by simp; omega
      simp only [List.length_nil] at hfl
      omega
    have HNE := Lib.hid hne
    have HML := Lib.hid (show ∀ f ∈ fs, f.length < 60 from fun f hf => Nat.lt_of_le_of_lt (hml f hf) (by simp; omega))
    have HFS := Lib.hid hfs
    have HNW := Lib.hid hnew
    have HBR := Lib.hid hb
    obtain ⟨ar, cr, rfl, hr1, hr2⟩ := hnew.form
    clear hne hml hfs hfl
    by_cases hlt : k < S.length
    · obtain ⟨rfl, hbS, hbk, hok, hc⟩ := HSO.out wo (.of_below hb) k hlt
      have k0 : (0 : Int) ≤ (k : Int) := by omega
      have k1 : (k : Int) < (S.length : Int) := by omega
      have HTK := Lib.hid (show runF g [] (S.take (k + 1)) = addF g fs S[k] from by rw [runF_take hlt, HFS.out])
      have HFV := Lib.hid (show FInv g fs S[k].tm from by rw [← HFS.out]; exact HSF.out k hlt)
      obtain ⟨s, hs⟩ : ∃ s, S[k] = s := ⟨_, rfl⟩
      rw [hs] at hok HTK HFV hc
      obtain ⟨A, hA⟩ : ∃ A, (sCells s).toArray = A := ⟨_, rfl⟩
      have hsz : A.size = 11 := by rw [← hA]; rfl
      have h1c := oneA hA
      have HA := Lib.hid hA
      have HOK := Lib.hid hok
      have LDW := Lib.hid (show ∀ w', Below w2.heap.size w2 w' → Sem.run Try.prog (loadCellsFrom ⟨b, o + k * 11, none⟩ 0 11 #[]) w' = .ok A w' from fun w' hw => by
        obtain ⟨-, -, -, -, hc'⟩ := HSO.out w' (.of_below hw) k hlt
        rw [hs] at hc'
        rw [← HA.out]
        exact load_seen _ hc')
      have hbB : b < w2.heap.size := hbS
      have hsB := hb.size
      clear hA hc hs hok hb hnew hbS hbk
      go_wp2
      go_loopg [8, 9] fs.length (fun gx a i wx => ∃ (j : Nat) (z : Int), j + gx = fs.length ∧ i = .int .i64 j ∧ a = .int .i64 z ∧ Hid ((z = -1 ∧ ∀ j' (h : j' < fs.length), j' < j → closeC g (lastS fs[j']) s = false) ∨ ∃ j0 : Nat, z = j0 ∧ ∃ h : j0 < fs.length, closeC g (lastS fs[j0]) s = true) ∧ GrB wo wx)
      case atStart => exact ⟨0, -1, by omega, rfl, rfl, Lib.hid (.inl ⟨rfl, fun j' h h' => by omega⟩), GrB.refl _⟩
      case round =>
        obtain ⟨wx, rfl⟩ : ∃ wx : World, wx = wr := ⟨_, rfl⟩
        obtain ⟨j, z, hj, rfl, rfl, HNC, hgx⟩ := hrel
        have HGX := Lib.hid hgx
        have HNX := Lib.hid (HNW.out.below hgx.below)
        clear hgx
        by_cases hjl : j < fs.length
        · have j0 : (0 : Int) ≤ (j : Int) := by omega
          have j1 : (j : Int) < (fs.length : Int) := by omega
          obtain ⟨F, hF, hFn, hFb⟩ := HNX.out
          obtain ⟨rb, cap', cs, Fi, hv, hcap1, hcap2, he, -, -⟩ := hF.upd hFn j hjl
          injection hv with v1 v2 v3
          subst v1
          subst v3
          obtain ⟨hh, rfl, hfo⟩ := he.own
          have hcell : wx.cell? ⟨rb, j, none⟩ = some hh := by have := he.cell 0 (by decide); simpa [tFrm, Ty.list] using this
          have hfe : fs[j] ≠ [] := HNE.out _ (List.getElem_mem hjl)
          have hF60 := HML.out fs[j] (List.getElem_mem hjl)
          obtain ⟨fb, fo, fc, rfl, hfS, hfb, hlok, hfl0, hfm, hlc⟩ := frm_last hfo.sl hfe
          have hrb := lt_of_cell hcell
          obtain ⟨n1, hn1⟩ : ∃ n1, fs[j].length = n1 + 1 := ⟨fs[j].length - 1, by omega⟩
          obtain ⟨Bv, hBv⟩ : ∃ B, (sCells (lastS fs[j])).toArray = B := ⟨_, rfl⟩
          obtain ⟨cl, hcl⟩ : ∃ c, closeC g (lastS fs[j]) s = c := ⟨_, rfl⟩
          have LD1 := Lib.hid (show ∀ n os, Sem.run Try.prog (loadCellsFrom ⟨fb, fo + n1 * 11, none⟩ 0 11 #[]) (grow (wx.drewN n) os) = .ok Bv (grow (wx.drewN n) os) from fun n os => by
            rw [← hBv]
            exact load_seen _ fun jj hjj => ((GrB.below ⟨n, os, rfl⟩).cell (p := ⟨fb, fo + n1 * 11 + jj, none⟩) hfb).trans (by have := hlc jj hjj; rw [hn1] at this; simpa using this))
          have LD2 := Lib.hid (show ∀ n os, Sem.run Try.prog (loadCellsFrom ⟨b, o + k * 11, none⟩ 0 11 #[]) (grow (wx.drewN n) os) = .ok A (grow (wx.drewN n) os) from fun n os =>
            LDW.out _ (bl_trans HBR.out (bl_trans HGX.out.below (GrB.below ⟨n, os, rfl⟩))))
          have HCL := Lib.hid (show ∀ n os, Calls Try.prog 31 #[.agg Bv, .agg A, .int .i64 g] (grow (wx.drewN n) os) fun e w' => e = .returned (.bool cl) ∧ ∃ q os', w' = grow ((grow (wx.drewN n) os).drewN q) os' from fun n os => by
            rw [← hBv, ← HA.out, ← hcl]
            exact closeR_any _ _ g _ hlok HOK.out HGG.out)
          have HCC := Lib.hid hcl
          rw [hn1] at hF60 hcell
          have cg := fun n os => cell_grown (w := wx) (a := ⟨rb, j, none⟩) hrb hcell n os
          have hz1 : (n1 : Int) + 1 - 1 = (n1 : Int) := by omega
          have hwn : IntKind.i64.wrap (n1 : Int) = (n1 : Int) := wrap_in (by omega) (by omega)
          have hn0 : (0 : Int) ≤ (n1 : Int) := by omega
          have hn2 : (n1 : Int) < (n1 : Int) + 1 := by omega
          clear hfo he hF hFn hFb hn1 hBv hcl hlc hfe hfl0 hfm hlok hfS hcell hrb hfb
          go_upto_region 10 with (fail)
          refine wp_region_quiet_grown (by kernel_rfl) (by kernel_rfl) ?_
          (iterate 11 (quiet_step (fail)))
          refine wpQuiet_step (fun K hK => ?_)
          rw [if_pos (show _ = true by kernel_rfl)]
          refine quiet_loadA (A := Bv) rfl Try.isAgg31 Try.sizeOf31 rfl (fun w' hw' => ?_) (hK _ ?_)
          · obtain ⟨⟨nq, osq⟩, rfl⟩ := hw'
            exact LD1.out nq osq
          clear hK K
          (iterate 3 (quiet_step (fail)))
          refine wpQuiet_step (fun K hK => ?_)
          rw [if_pos (show _ = true by kernel_rfl)]
          refine quiet_loadA (A := A) rfl Try.isAgg31 Try.sizeOf31 rfl (fun w' hw' => ?_) (hK _ ?_)
          · obtain ⟨⟨nq, osq⟩, rfl⟩ := hw'
            exact LD2.out nq osq
          clear hK K
          quiet_step (fail)
          quiet_step ((go_at_call 31; with_reducible exact Calls.grown_of (HCL.out _ _)))
          refine wpQuiet_nil ?_
          intro _ hw'
          obtain ⟨⟨nq, osq⟩, hw''⟩ := hw'
          subst hw''
          have HGQ := Lib.hid (show GrB wx (grow (wx.drewN nq) osq) from ⟨nq, osq, rfl⟩)
          clear cg LD1 LD2 HCL
          generalize grow (wx.drewN nq) osq = wq at HGQ ⊢
          cases cl with
          | false =>
            go_wp2_with (fail)
            go_roundg (fs.length - (j + 1))
            case measure => omega
            case rel => exact ⟨j + 1, z, by omega, by go_num, rfl, Lib.hid (by
              rcases HNC.out with ⟨hz, hn⟩ | hz
              · exact .inl ⟨hz, fun j' h h' => by
                  by_cases e : j' = j
                  · subst e; exact HCC.out
                  · exact hn j' h (by omega)⟩
              · exact .inr hz), HGX.out.trans HGQ.out⟩
          | true =>
            go_wp2_with (fail)
            go_roundg (fs.length - (j + 1))
            case measure => omega
            case rel => exact ⟨j + 1, j, by omega, by go_num, rfl, Lib.hid (.inr ⟨j, rfl, hjl, HCC.out⟩), HGX.out.trans HGQ.out⟩
        · have hkl : ¬ (j : Int) < (fs.length : Int) := by omega
          have hcase : (z = -1 ∧ ∀ j' (h : j' < fs.length), closeC g (lastS fs[j']) s = false) ∨ ∃ j0 : Nat, z = j0 ∧ ∃ h : j0 < fs.length, closeC g (lastS fs[j0]) s = true := by
            rcases HNC.out with ⟨hz, hn⟩ | hz
            · exact .inl ⟨hz, fun j' h => hn j' h (by omega)⟩
            · exact .inr hz
          clear HNC
          have hszw := HGX.out.below.size
          rcases hcase with ⟨rfl, hno⟩ | ⟨jj, rfl, hjj, hcc⟩
          · have HNO := Lib.hid hno
            have ldq := LDW.out wx (bl_trans HBR.out HGX.out.below)
            clear hno
            have HNEW := Lib.hid (show New tFrm wx.heap.size (wx.alloc (.cells A 31)) [.slice (some ⟨wx.heap.size, 0, none⟩) 1 1] [s] from by
              refine ⟨[wx.heap.size], ⟨_, rfl, ⟨[sCells s], [[]], ?_, ⟨tSeen_own_mk HOK.out, trivial⟩, rfl⟩⟩, by simp, by simp⟩
              have hrow := World.ownsRow_lit (base := 0) (e := 31) (size := 11) wx A 1 (Nat.zero_le _) (by decide) (by rw [← HA.out]; rfl)
              have e1 : A.toList = [sCells s].flatten := by rw [← HA.out]; simp
              rw [e1] at hrow
              exact hrow)
            go_wp2_with (first
              | (refine wpList_loadA _ rfl 31 rfl Try.isAgg31 Try.sizeOf31 rfl (by with_reducible assumption) ?_)
              | (refine wpList_buildA _ rfl 22 rfl Try.underlying22 Try.sizeOf31 Try.zeroValue31 (by decide) (by decide) rfl (by with_reducible assumption) ?_)
              | (at_builtin
                 refine wpList_append_new (.tmp 45) (.tmp 51) rfl 24 rfl slFrm (x := [s]) (B := w2.heap.size) (w1 := wx) rfl HNX.out (bl_alloc (Below.refl _ _) _) (by rw [World.size_alloc]; rfl) ?_ (small_bytes (k := 1001) (by omega) (by decide)) (by unfold maxLen; omega) (by have := HBR.out.size; omega) ?_
                 exact HNEW.out
                 intro v7 w7 hn7 hb7
                 have HN7 := Lib.hid hn7
                 have HB7 := Lib.hid hb7
                 clear hn7 hb7))
            go_roundg (S.length - (k + 1))
            case measure => omega
            case rel => exact ⟨k + 1, by omega, by go_num, by rw [HTK.out, addF_no fun j' hj' => HNO.out j' hj']; exact HN7.out, (bl_trans HBR.out (bl_alloc HGX.out.below _)).trans HB7.out⟩
          · have jj0 : (0 : Int) ≤ (jj : Int) := by omega
            have jj1 : (jj : Int) < (fs.length : Int) := by omega
            have jj2 : decide ((jj : Int) < 0) = false := by simp
            obtain ⟨F, hF, hFn, hFb⟩ := HNX.out
            obtain ⟨rb, cap', cs, Fi, hv, hcap1, hcap2, he, -, hupd⟩ := hF.upd hFn jj hjj
            injection hv with v1 v2 v3
            subst v1
            subst v3
            obtain ⟨hh, rfl, hfo⟩ := he.own
            have hcell : wx.cell? ⟨rb, jj, none⟩ = some hh := by have := he.cell 0 (by decide); simpa [tFrm, Ty.list] using this
            have hF60 := HML.out fs[jj] (List.getElem_mem hjj)
            obtain ⟨fa, fc, rfl, -⟩ := hfo.form
            have HFF := Lib.hid (show (∀ b ∈ F, w2.heap.size ≤ b) ∧ ∀ b ∈ F, b < wx.heap.size from ⟨hFb, hF.lt⟩)
            have HE := Lib.hid he
            have HUP := Lib.hid hupd
            obtain ⟨n1, hn1⟩ : ∃ n1, fs[jj].length = n1 := ⟨_, rfl⟩
            have HFO := Lib.hid hfo
            have HN1 := Lib.hid hn1
            rw [hn1] at hF60 hcell HFO
            have HC9 := Lib.hid (show ∀ w', (Below w2.heap.size wx w' ∧ w'.heap[rb]? = wx.heap[rb]?) → w'.cell? ⟨rb, jj, none⟩ = some (.slice fa n1 fc) from fun w' h => (World.cell?_of_block (w := wx) h.2).trans hcell)
            have LD9 := Lib.hid (show ∀ w', (Below w2.heap.size wx w' ∧ w'.heap[rb]? = wx.heap[rb]?) → Sem.run Try.prog (loadCellsFrom ⟨b, o + k * 11, none⟩ 0 11 #[]) w' = .ok A w' from fun w' h => LDW.out w' ((bl_trans HBR.out HGX.out.below).trans h.1))
            have HSQ := Lib.hid (show w2.heap.size ≤ wx.heap.size from Nat.le_trans HBR.out.size HGX.out.below.size)
            have HCC := Lib.hid hcc
            have hjlt : jj < fs.length := hjj
            clear hcc hfo he hupd hF hFn hFb hn1 hcell LDW
            go_upto_region 14 with (fail)
            refine wp_region_E 13 (fun w' => Below w2.heap.size wx w' ∧ w'.heap[rb]? = wx.heap[rb]?) (by kernel_rfl) (⟨Below.drew (Below.refl _ _), rfl⟩) (fun hHeld => ?_)
            refine wpE_take (i := 0) (v := ?_) rfl (by kernel_rfl) (fun _ _ _ h => h) (Or.inl ⟨by kernel_rfl, ?_⟩) (by assumption) ?_
            rotate_left
            focus (intro w9 hS9; (try dsimp only at hS9); go_simp; (try with_reducible rfl))
            (try simp only [List.getElem_toArray, List.getElem_cons_succ, List.getElem_cons_zero])
            (try simp only [Act.put])
            (try simp only [List.setIfInBounds_toArray])
            (repeat (first | simp only [List.set_cons_succ] | simp only [List.set_cons_zero]))
            refine wpE_take (i := 1) (v := ?_) rfl (by kernel_rfl) (fun _ _ _ h => h) (Or.inl ⟨by kernel_rfl, ?_⟩) (by assumption) ?_
            rotate_left
            focus (intro w9 hS9; (try dsimp only at hS9); go_simp; (try with_reducible rfl))
            (try simp only [List.getElem_toArray, List.getElem_cons_succ, List.getElem_cons_zero])
            (try simp only [Act.put])
            (try simp only [List.setIfInBounds_toArray])
            (repeat (first | simp only [List.set_cons_succ] | simp only [List.set_cons_zero]))
            refine wpE_take (i := 2) (v := ?_) rfl (by kernel_rfl) (fun _ _ _ h => h) (Or.inl ⟨by kernel_rfl, ?_⟩) (by assumption) ?_
            rotate_left
            focus (intro w9 hS9; (try dsimp only at hS9); go_simp; (try with_reducible rfl))
            (try simp only [List.getElem_toArray, List.getElem_cons_succ, List.getElem_cons_zero])
            (try simp only [Act.put])
            (try simp only [List.setIfInBounds_toArray])
            (repeat (first | simp only [List.set_cons_succ] | simp only [List.set_cons_zero]))
            refine wpE_take (i := 3) (v := ?_) rfl (by kernel_rfl) (fun _ _ _ h => h) (Or.inl ⟨by kernel_rfl, ?_⟩) (by assumption) ?_
            rotate_left
            focus (intro w9 hS9; (try dsimp only at hS9); go_simp; (try with_reducible rfl))
            (try simp only [List.getElem_toArray, List.getElem_cons_succ, List.getElem_cons_zero])
            (try simp only [Act.put])
            (try simp only [List.setIfInBounds_toArray])
            (repeat (first | simp only [List.set_cons_succ] | simp only [List.set_cons_zero]))
            refine wpE_take (i := 4) (v := ?_) rfl (by kernel_rfl) (fun _ _ _ h => h) (Or.inl ⟨by kernel_rfl, ?_⟩) (by assumption) ?_
            rotate_left
            focus (intro w9 hS9; (try dsimp only at hS9); go_simp; (try with_reducible rfl))
            (try simp only [List.getElem_toArray, List.getElem_cons_succ, List.getElem_cons_zero])
            (try simp only [Act.put])
            (try simp only [List.setIfInBounds_toArray])
            (repeat (first | simp only [List.set_cons_succ] | simp only [List.set_cons_zero]))
            refine wpE_take (i := 5) (v := ?_) rfl (by kernel_rfl) (fun _ _ _ h => h) (Or.inl ⟨by kernel_rfl, ?_⟩) (by assumption) ?_
            rotate_left
            focus (intro w9 hS9; have z0 := HC9.out w9 hS9; clear hS9; go_simp; (try with_reducible rfl))
            (try simp only [List.getElem_toArray, List.getElem_cons_succ, List.getElem_cons_zero])
            (try simp only [Act.put])
            (try simp only [List.setIfInBounds_toArray])
            (repeat (first | simp only [List.set_cons_succ] | simp only [List.set_cons_zero]))
            refine wpE_take (i := 6) (v := ?_) rfl (by kernel_rfl) (fun _ _ _ h => h) (Or.inl ⟨by kernel_rfl, ?_⟩) (by assumption) ?_
            rotate_left
            focus (intro w9 hS9; (try dsimp only at hS9); go_simp; (try with_reducible rfl))
            (try simp only [List.getElem_toArray, List.getElem_cons_succ, List.getElem_cons_zero])
            (try simp only [Act.put])
            (try simp only [List.setIfInBounds_toArray])
            (repeat (first | simp only [List.set_cons_succ] | simp only [List.set_cons_zero]))
            refine wpE_take (i := 7) (v := ?_) rfl (by kernel_rfl) (fun _ _ _ h => h) (Or.inl ⟨by kernel_rfl, ?_⟩) (by assumption) ?_
            rotate_left
            focus (intro w9 hS9; (try dsimp only at hS9); go_simp; (try with_reducible rfl))
            (try simp only [List.getElem_toArray, List.getElem_cons_succ, List.getElem_cons_zero])
            (try simp only [Act.put])
            (try simp only [List.setIfInBounds_toArray])
            (repeat (first | simp only [List.set_cons_succ] | simp only [List.set_cons_zero]))
            refine wpE_take (i := 8) (v := ?_) rfl (by kernel_rfl) (fun _ _ _ h => h) (Or.inl ⟨by kernel_rfl, ?_⟩) (by assumption) ?_
            rotate_left
            focus (intro w9 hS9; (try dsimp only at hS9); go_simp; (try with_reducible rfl))
            (try simp only [List.getElem_toArray, List.getElem_cons_succ, List.getElem_cons_zero])
            (try simp only [Act.put])
            (try simp only [List.setIfInBounds_toArray])
            (repeat (first | simp only [List.set_cons_succ] | simp only [List.set_cons_zero]))
            refine wpE_take (i := 9) (v := ?_) rfl (by kernel_rfl) (fun _ _ _ h => h) (Or.inl ⟨by kernel_rfl, ?_⟩) (by assumption) ?_
            rotate_left
            focus (intro w9 hS9; refine exec_loadA (t := 31) (x := Operand.tmp 61) (p := ⟨b, o + k * 11, none⟩) (A := A) ?_ Try.isAgg31 Try.sizeOf31 ?_ (LD9.out w9 hS9); rfl; go_simp; (try rfl))
            (try simp only [List.getElem_toArray, List.getElem_cons_succ, List.getElem_cons_zero])
            (try simp only [Act.put])
            (try simp only [List.setIfInBounds_toArray])
            (repeat (first | simp only [List.set_cons_succ] | simp only [List.set_cons_zero]))
            obtain ⟨wd, hwd⟩ : ∃ wd, wx.drew = wd := ⟨_, rfl⟩
            have HWD := Lib.hid (show ∀ k : Nat, wd.heap[k]? = wx.heap[k]? from fun k => by rw [← hwd]; rfl)
            have HZD := Lib.hid (show wd.heap.size = wx.heap.size from by rw [← hwd]; rfl)
            have HBD := Lib.hid (show Below w2.heap.size wx wd from by rw [← hwd]; exact Below.drew (Below.refl _ _))
            rw [hwd] at hHeld ⊢
            clear hwd
            have HFQ := Lib.hid (show OwnL tSeen 31 Fi wd (.slice fa n1 fc) fs[jj] from HFO.out.keep fun b hb => HWD.out b)
            refine wpE_ready (rs := [10]) (by kernel_rfl) (by kernel_rfl) ?_
            refine AllReadyE.cons rfl (fun K hK => ?_) AllReadyE.nil
            rw [if_pos (show _ = true by kernel_rfl)]
            refine wp_buildA (A := A) (.tmp 62) 22 rfl Try.underlying22 Try.sizeOf31 Try.zeroValue31 (by decide) (by decide) (by go_simp) hsz ?_
            (try simp only [List.getElem_toArray, List.getElem_cons_succ, List.getElem_cons_zero])
            (try simp only [Act.put])
            (try simp only [List.setIfInBounds_toArray])
            (repeat (first | simp only [List.set_cons_succ] | simp only [List.set_cons_zero]))
            clear hHeld
            refine hK.out _ _ (⟨HBD.out.alloc (by have := HSQ.out; have := HZD.out; omega) _, (Below.heap_alloc _ _ _ (by have := HFF.out.2 rb HE.out.mem; have := HZD.out; omega)).trans (HWD.out rb)⟩) (fun hHeld => ?_)
            clear hK K
            refine wpE_ready (rs := [11]) (by kernel_rfl) (by kernel_rfl) ?_
            refine AllReadyE.cons rfl (fun K hK => ?_) AllReadyE.nil
            rw [if_pos (show _ = true by kernel_rfl)]
            refine wp_append_L (v := .slice fa n1 fc) (.tmp 58) (.tmp 63) 22 rfl slSeen (x := s) (F1 := []) (by go_simp) HFQ.out HE.out.nodup (by go_simp) (by rw [← HA.out]; exact tSeen_own_mk HOK.out) List.nodup_nil (fun b hb => absurd hb List.not_mem_nil) (small_bytes (k := 1001) (by rw [HN1.out]; omega) (by decide)) (by rw [HN1.out]; unfold maxLen; omega) ?_
            intro v7 w7 F7 ho7 hn7 hf7 hg7
            (try simp only [List.getElem_toArray, List.getElem_cons_succ, List.getElem_cons_zero])
            (try simp only [Act.put])
            (try simp only [List.setIfInBounds_toArray])
            (repeat (first | simp only [List.set_cons_succ] | simp only [List.set_cons_zero]))
            obtain ⟨a7, c7, rfl, -⟩ := ho7.form
            have hbk7 : ∀ b ∈ F, b ∉ Fi → w7.heap[b]? = wx.heap[b]? := fun b hb hb' => by
              have hbw := HFF.out.2 b hb
              have h1 := hg7.block b (by have := HZD.out; simp; omega) (fun e => hb' (HFQ.out.blk b e.symm))
              rw [h1, Below.heap_alloc _ _ _ (by have := HZD.out; omega)]
              exact HWD.out b
            have hrb := hbk7 rb HE.out.mem HE.out.out
            have c7c : w7.cell? ⟨rb, jj, none⟩ = some (.slice fa n1 fc) := HC9.out w7 ⟨(HBD.out.alloc (by have := HSQ.out; have := HZD.out; omega) _).trans (Below.of_grown hg7 (by have := HSQ.out; have := HZD.out; simp; omega) (fun k' hk' => HFF.out.1 k' (HE.out.sub k' (HFQ.out.blk k' hk')))), hrb⟩
            have c7f : w7.frozen? ⟨rb, jj, none⟩ = false := (World.frozen?_of_block (w := wx) hrb).trans (HE.out.free jj)
            have HO7 := Lib.hid ho7
            have HN7 := Lib.hid hn7
            have HF7 := Lib.hid hf7
            have HK7 := Lib.hid hbk7
            have HB7 := Lib.hid (show Below w2.heap.size wx w7 from (HBD.out.alloc (by have := HSQ.out; have := HZD.out; omega) _).trans (Below.of_grown hg7 (by have := HSQ.out; have := HZD.out; simp; omega) (fun k' hk' => HFF.out.1 k' (HE.out.sub k' (HFQ.out.blk k' hk')))))
            clear ho7 hn7 hf7 hg7 hbk7
            clear hHeld
            refine hK.out _ _ (⟨HB7.out, hrb⟩) (fun hHeld => ?_)
            clear hK K
            clear hrb
            refine wpE_take (i := 12) (v := ?_) rfl (by kernel_rfl) (fun _ _ _ h => h) (Or.inl ⟨by kernel_rfl, ?_⟩) (by assumption) ?_
            rotate_left
            focus (intro w9 hS9; (try dsimp only at hS9); go_simp; (try with_reducible rfl))
            (try simp only [List.getElem_toArray, List.getElem_cons_succ, List.getElem_cons_zero])
            (try simp only [Act.put])
            (try simp only [List.setIfInBounds_toArray])
            (repeat (first | simp only [List.set_cons_succ] | simp only [List.set_cons_zero]))
            clear hHeld
            refine wpE_out (by kernel_rfl) ?_
            refine wpAny_ready (rs := [13]) (by kernel_rfl) (by simp) ?_
            refine AllReady.cons rfl (fun K hK => ?_) AllReady.nil
            rw [if_pos (show _ = true by kernel_rfl)]
            go_simp
            refine hK _ _ ?_
            clear hK K
            refine wpAny_done (by kernel_rfl) ?_ _
            go_wp2_with (fail)
            go_roundg (S.length - (k + 1))
            case measure => omega
            case rel =>
              have hupd := HUP.out w7 F7 (fs[jj] ++ [s]) 0 _ HK7.out (by decide) ⟨_, rfl, HO7.out⟩ HN7.out (fun b hb => by
                rcases HF7.out b hb with q | q | q
                · exact .inl q
                · exact absurd q List.not_mem_nil
                · exact .inr fun hF => by have := HFF.out.2 b hF; have := HZD.out; omega)
              obtain ⟨F8, hO8, hN8, hM8⟩ := hupd
              have hrbB : w2.heap.size ≤ rb := HFF.out.1 rb HE.out.mem
              refine ⟨k + 1, by omega, by go_num, ?_, bl_set ((bl_trans HBR.out HGX.out.below).trans HB7.out) _ hrbB⟩
              rw [HTK.out, addF_close HFV.out hjlt HCC.out]
              refine ⟨F8, ?_, hN8, fun b hb => ?_⟩
              · have e : jj * tFrm.sz + 0 = jj := by show jj * 1 + 0 = jj; omega
                rw [e] at hO8
                have e3 : (fs[jj] ++ [s]).length = fs[jj].length + 1 := by simp
                rw [e3] at hO8
                exact hO8
              · rcases hM8 b hb with q | q
                · exact HFF.out.1 b q
                · rcases HF7.out b q with q | q | q
                  · exact HFF.out.1 b (HE.out.sub b q)
                  · exact absurd q List.not_mem_nil
                  · have := HSQ.out; have := HZD.out; omega
    · obtain rfl : k = S.length := by omega
      have hkl : ¬ (S.length : Int) < (S.length : Int) := by omega
      have hfin : fs = framesC g l := by rw [HFR.out, ← HFS.out, List.take_length]
      have HFI := Lib.hid hfin
      clear hlt hk hfin hnew hb
      go_wp2_with (fail)
      go_ret
      exact ⟨⟨_, rfl, by rw [← HFI.out]; exact HNW.out.mono HB2.out.size⟩, HB2.out.trans (HBR.out.mono HB2.out.size)⟩
end Go.Proofs.Ytffpnbipacgidaa
