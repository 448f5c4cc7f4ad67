/-
  Layer 17 (passage): the laws' awake.
-/
import Derived.Test.YtbjhemglecllmaaDoorMgH
namespace Go.Proofs.YtbjhemglecllmaaDoor
open Go.RowKit Go.Tw Go.Tw.Ord Go.Tw.Ps Go.Sort
set_option maxRecDepth 100000 in
set_option maxHeartbeats 4000000 in
theorem awake_any (w : World) : Calls Tryd.prog 12 #[] w fun e w' => e = .returned (.bool true) ∧ Below w.heap.size w w' := by
  go_enter Tryd.func12, Tryd.ntmps12
  go_upto_region 7 with (fail)
  obtain ⟨W6, hW⟩ : ∃ W6, ((((((w.alloc (.cells #[.string ⟨#[112]⟩, .int .i64 1, .string ⟨#[]⟩] 29)).alloc (.cells #[.slice (some ⟨w.heap.size, 0, none⟩) 1 1, .slice none 0 0] 32)).alloc
    (.cells #[.string ⟨#[99, 97, 109]⟩, .int .i64 7, .string ⟨#[116, 97, 103]⟩, .int .i64 2] 54)).alloc
    (.cells #[.string ⟨#[99, 97, 109, 46, 55]⟩, .string ⟨#[112]⟩, .int .i64 5, .string ⟨#[]⟩, .string ⟨#[65, 66, 49]⟩, .int .i64 0, .int .i64 900, .slice (some ⟨w.heap.size + 1 + 1, 0, none⟩) 2 2] 24)).alloc
    (.cells #[.string ⟨#[99, 97, 109, 46, 55]⟩, .string ⟨#[112]⟩, .int .i64 4, .string ⟨#[84]⟩, .string ⟨#[65, 66, 49]⟩, .int .i64 0, .int .i64 900, .slice (some ⟨w.heap.size + 1 + 1, 0, none⟩) 2 2] 24)).alloc
    (.cells #[.string ⟨#[99, 97, 109, 46, 55]⟩, .string ⟨#[112]⟩, .int .i64 5, .string ⟨#[]⟩, .string ⟨#[65, 66, 49]⟩, .int .i64 0, .int .i64 900, .slice (some ⟨w.heap.size + 1 + 1, 0, none⟩) 2 2,
      .string ⟨#[99, 97, 109, 46, 55]⟩, .string ⟨#[112]⟩, .int .i64 4, .string ⟨#[84]⟩, .string ⟨#[65, 66, 49]⟩, .int .i64 0, .int .i64 900, .slice (some ⟨w.heap.size + 1 + 1, 0, none⟩) 2 2] 24)) = W6 := ⟨_, rfl⟩
  rw [hW]
  have HB6 := Lib.hid (show Below w.heap.size w W6 from by
    rw [← hW]
    exact bl_alloc (bl_alloc (bl_alloc (bl_alloc (bl_alloc (bl_alloc (Below.refl _ _) _) _) _) _) _) _)
  have HX6 := Lib.hid (show ExB W6 w.heap.size from by
    rw [← hW]
    generalize hq : w.heap.size = q
    refine ⟨?_, ?_, ?_, ?_, ?_, ?_⟩
    · exact alloc1_old _ (alloc1_old _ (alloc1_old _ (alloc1_old _ (alloc1_old _ (hq ▸ heap_alloc_new w _)))))
    · exact alloc1_old _ (alloc1_old _ (alloc1_old _ (alloc1_old _ (new_at (by simp [hq])))))
    · exact alloc1_old _ (alloc1_old _ (alloc1_old _ (new_at (by simp [hq]))))
    · exact alloc1_old _ (alloc1_old _ (new_at (by simp [hq])))
    · exact alloc1_old _ (new_at (by simp [hq]))
    · exact new_at (by simp [hq]))
  have hz6 : W6.heap.size = w.heap.size + 1 + 1 + 1 + 1 + 1 + 1 := by rw [← hW]; simp
  clear hW
  obtain ⟨q, hq⟩ : ∃ q, w.heap.size = q := ⟨_, rfl⟩
  rw [hq] at HX6 hz6 ⊢
  obtain ⟨z0, z1, z2, z3, z4, z5, z6, z7⟩ := HX6.out.cb
  have HD := Lib.hid (show Calls Tryd.prog 23 #[.slice (some ⟨q + 1 + 1 + 1 + 1 + 1, 0, none⟩) 2 2, .slice (some ⟨W6.heap.size, 0, none⟩) 2 2] (W6.alloc (.cells #[.string ⟨#[99, 97, 109, 46, 55]⟩, .string ⟨#[112]⟩, .int .i64 4, .string ⟨#[84]⟩, .string ⟨#[65, 66, 49]⟩, .int .i64 0, .int .i64 900, .slice (some ⟨q + 1 + 1, 0, none⟩) 2 2, .string ⟨#[99, 97, 109, 46, 55]⟩, .string ⟨#[112]⟩, .int .i64 4, .string ⟨#[84]⟩, .string ⟨#[65, 66, 49]⟩, .int .i64 0, .int .i64 900, .slice (some ⟨q + 1 + 1, 0, none⟩) 2 2] 24)) fun e w' => (∃ v1 a2 c2, e = .returned (.tuple #[v1, .slice a2 0 c2]) ∧ SlIs (tPas eS) (· < w'.heap.size) w' v1 [exA]) ∧ Below (W6.alloc (.cells #[.string ⟨#[99, 97, 109, 46, 55]⟩, .string ⟨#[112]⟩, .int .i64 4, .string ⟨#[84]⟩, .string ⟨#[65, 66, 49]⟩, .int .i64 0, .int .i64 900, .slice (some ⟨q + 1 + 1, 0, none⟩) 2 2, .string ⟨#[99, 97, 109, 46, 55]⟩, .string ⟨#[112]⟩, .int .i64 4, .string ⟨#[84]⟩, .string ⟨#[65, 66, 49]⟩, .int .i64 0, .int .i64 900, .slice (some ⟨q + 1 + 1, 0, none⟩) 2 2] 24)).heap.size (W6.alloc (.cells #[.string ⟨#[99, 97, 109, 46, 55]⟩, .string ⟨#[112]⟩, .int .i64 4, .string ⟨#[84]⟩, .string ⟨#[65, 66, 49]⟩, .int .i64 0, .int .i64 900, .slice (some ⟨q + 1 + 1, 0, none⟩) 2 2, .string ⟨#[99, 97, 109, 46, 55]⟩, .string ⟨#[112]⟩, .int .i64 4, .string ⟨#[84]⟩, .string ⟨#[65, 66, 49]⟩, .int .i64 0, .int .i64 900, .slice (some ⟨q + 1 + 1, 0, none⟩) 2 2] 24)) w' from
    (diff_any [exA, exB] [exB, exB] _ _ _ (HX6.out.lst.step (bl_alloc (Below.refl _ _) _)) (two_sl (heap_alloc_new W6 _) okB okB (HX6.out.src.step (bl_alloc (Below.refl _ _) _)) (HX6.out.src.step (bl_alloc (Below.refl _ _) _))) (by decide) (by decide) (by decide) (by decide)).mono fun e w' h => by
      obtain ⟨⟨v1, v2, rfl, O1, O2, d1, d2, -, -, s1, s2⟩, hb7⟩ := h
      obtain rfl := ex_diff1 d1
      obtain rfl := ex_diff2 d2
      obtain ⟨a2, c2, _, _, rfl, -⟩ := id s2
      exact ⟨⟨v1, a2, c2, rfl, s1⟩, hb7⟩)
  clear hz6
  go_upto_region 8 with (go_at_call 23
                         with_reducible refine HD.out.mono ?_
                         rintro e w7 ⟨⟨v1, a2, c2, rfl, s1⟩, hb7⟩
                         have HX7 := Lib.hid (HX6.out.step (bl_trans (bl_alloc (Below.refl W6.heap.size W6) _) hb7))
                         have HB7 := Lib.hid (bl_trans HB6.out (bl_trans (bl_alloc (Below.refl W6.heap.size W6) _) hb7))
                         have S1 := Lib.hid s1
                         clear s1 hb7 z0 z1 z2 z3 z4 z5 z6 z7)
  obtain ⟨z0, z1, z2, z3, z4, z5, z6, z7⟩ := HX7.out.ca
  go_upto_region 10 with (fail)
  have HX9 := Lib.hid (HX7.out.step (bl_alloc (Below.refl w7.heap.size w7) (.cells #[.string ⟨#[99, 97, 109, 46, 56]⟩, .string ⟨#[112]⟩, .int .i64 5, .string ⟨#[]⟩, .string ⟨#[65, 66, 49]⟩, .int .i64 0, .int .i64 900, .slice (some ⟨q + 1 + 1, 0, none⟩) 2 2] 24)))
  have HG9 := Lib.hid (show BadB (w7.alloc (.cells #[.string ⟨#[99, 97, 109, 46, 56]⟩, .string ⟨#[112]⟩, .int .i64 5, .string ⟨#[]⟩, .string ⟨#[65, 66, 49]⟩, .int .i64 0, .int .i64 900, .slice (some ⟨q + 1 + 1, 0, none⟩) 2 2] 24)) q w7.heap.size from heap_alloc_new _ _)
  have HB9 := Lib.hid (bl_alloc HB7.out (.cells #[.string ⟨#[99, 97, 109, 46, 56]⟩, .string ⟨#[112]⟩, .int .i64 5, .string ⟨#[]⟩, .string ⟨#[65, 66, 49]⟩, .int .i64 0, .int .i64 900, .slice (some ⟨q + 1 + 1, 0, none⟩) 2 2] 24))
  have S19 := Lib.hid (S1.out.step (bl_alloc (Below.refl w7.heap.size w7) (.cells #[.string ⟨#[99, 97, 109, 46, 56]⟩, .string ⟨#[112]⟩, .int .i64 5, .string ⟨#[]⟩, .string ⟨#[65, 66, 49]⟩, .int .i64 0, .int .i64 900, .slice (some ⟨q + 1 + 1, 0, none⟩) 2 2] 24)))
  generalize w7.alloc (.cells #[.string ⟨#[99, 97, 109, 46, 56]⟩, .string ⟨#[112]⟩, .int .i64 5, .string ⟨#[]⟩, .string ⟨#[65, 66, 49]⟩, .int .i64 0, .int .i64 900, .slice (some ⟨q + 1 + 1, 0, none⟩) 2 2] 24) = w9 at HX9 HG9 HB9 S19 ⊢
  generalize w7.heap.size = g at HG9 ⊢
  obtain ⟨n0, n1⟩ := HX9.out.cn
  clear z0 z1 z2 z3 z4 z5 z6 z7
  obtain ⟨z0, z1, z2, z3, z4, z5, z6, z7⟩ := HX9.out.ca
  obtain ⟨y0, y1, y2, y3, y4, y5, y6, y7⟩ := bad_cells HG9.out
  go_upto_region 12 with (first
    | (go_at_call 13
       first
       | (with_reducible refine (chkA HX9.out).mono ?_
          rintro e wa ⟨rfl, hb⟩
          have HXa := Lib.hid (HX9.out.step hb)
          have HGa := Lib.hid (HG9.out.step hb)
          have HBa := Lib.hid (bl_trans HB9.out hb)
          have S1a := Lib.hid (S19.out.step hb)
          clear hb n0 n1 z0 z1 z2 z3 z4 z5 z6 z7 y0 y1 y2 y3 y4 y5 y6 y7
          obtain ⟨n0, n1⟩ := HXa.out.cn
          obtain ⟨z0, z1, z2, z3, z4, z5, z6, z7⟩ := HXa.out.ca
          obtain ⟨y0, y1, y2, y3, y4, y5, y6, y7⟩ := bad_cells HGa.out)
       | (with_reducible refine (chkC HXa.out).mono ?_
          rintro e wb ⟨rfl, hb⟩
          have HXb := Lib.hid (HXa.out.step hb)
          have HGb := Lib.hid (HGa.out.step hb)
          have HBb := Lib.hid (bl_trans HBa.out hb)
          have S1b := Lib.hid (S1a.out.step hb)
          clear hb n0 n1 z0 z1 z2 z3 z4 z5 z6 z7 y0 y1 y2 y3 y4 y5 y6 y7
          obtain ⟨n0, n1⟩ := HXb.out.cn
          obtain ⟨z0, z1, z2, z3, z4, z5, z6, z7⟩ := HXb.out.ca
          obtain ⟨y0, y1, y2, y3, y4, y5, y6, y7⟩ := bad_cells HGb.out))
    | (go_at_call 15
       with_reducible refine (idEx HXb.out).mono ?_
       rintro e wc ⟨rfl, hb⟩
       have HXc := Lib.hid (HXb.out.step hb)
       have HGc := Lib.hid (HGb.out.step hb)
       have HBc := Lib.hid (bl_trans HBb.out hb)
       have S1c := Lib.hid (S1b.out.step hb)
       clear hb n0 n1 z0 z1 z2 z3 z4 z5 z6 z7 y0 y1 y2 y3 y4 y5 y6 y7
       obtain ⟨n0, n1⟩ := HXc.out.cn
       obtain ⟨z0, z1, z2, z3, z4, z5, z6, z7⟩ := HXc.out.ca
       obtain ⟨y0, y1, y2, y3, y4, y5, y6, y7⟩ := bad_cells HGc.out)
    | (go_at_call 17
       first
       | (with_reducible refine vehA.mono ?_
          rintro e wd ⟨rfl, hb⟩
          have HXd := Lib.hid (HXc.out.step hb)
          have HGd := Lib.hid (HGc.out.step hb)
          have HBd := Lib.hid (bl_trans HBc.out hb)
          have S1d := Lib.hid (S1c.out.step hb)
          clear hb n0 n1 z0 z1 z2 z3 z4 z5 z6 z7 y0 y1 y2 y3 y4 y5 y6 y7
          obtain ⟨n0, n1⟩ := HXd.out.cn
          obtain ⟨z0, z1, z2, z3, z4, z5, z6, z7⟩ := HXd.out.cb
          obtain ⟨y0, y1, y2, y3, y4, y5, y6, y7⟩ := bad_cells HGd.out)
       | (with_reducible refine vehB.mono ?_
          rintro e we ⟨rfl, hb⟩
          have HXe := Lib.hid (HXd.out.step hb)
          have HGe := Lib.hid (HGd.out.step hb)
          have HBe := Lib.hid (bl_trans HBd.out hb)
          have S1e := Lib.hid (S1d.out.step hb)
          clear hb n0 n1 z0 z1 z2 z3 z4 z5 z6 z7 y0 y1 y2 y3 y4 y5 y6 y7
          obtain ⟨n0, n1⟩ := HXe.out.cn
          obtain ⟨z0, z1, z2, z3, z4, z5, z6, z7⟩ := HXe.out.ca
          obtain ⟨y0, y1, y2, y3, y4, y5, y6, y7⟩ := bad_cells HGe.out)))
  clear n0 n1 z0 z1 z2 z3 z4 z5 z6 z7 y0 y1 y2 y3 y4 y5 y6 y7
  clear HX6 HX7 HX9 HXa HXb HXc HXd HG9 HGa HGb HGc HGd HGe HB6 HB7 HB9 HBa HBb HBc HBd S1 S19 S1a S1b S1c S1d HD
  have HXE := HXe
  have CA := Lib.hid (fun (w' : World) (hw : Below we.heap.size we w') => (HXe.out.step hw).ca)
  have CB := Lib.hid (fun (w' : World) (hw : Below we.heap.size we w') => (HXe.out.step hw).cb)
  have HW := Lib.hid (Below.refl we.heap.size we)
  refine wp_region_E 37 (fun w' => Below we.heap.size we w') (by kernel_rfl) ((by (repeat (first | (with_reducible exact Below.refl _ _) | (with_reducible apply bl_drewN) | (with_reducible apply bl_alloc) | (with_reducible apply Below.drew))); done)) (fun hHeld => ?_)
  refine wpE_take (i := 0) (v := ?_) rfl (by kernel_rfl) (fun _ _ _ h => h) (Or.inl ⟨by kernel_rfl, ?_⟩) (by assumption) ?_
  rotate_left
  focus (intro w9 hS9; (try dsimp only at hS9); go_simp; (try with_reducible rfl))
  (try simp only [List.getElem_toArray, List.getElem_cons_zero])
  (try simp only [Act.put])
  (try simp only [List.setIfInBounds_toArray])
  (repeat (first | simp only [List.set_cons_succ] | simp only [List.set_cons_zero]))
  refine wpE_take (i := 2) (v := ?_) rfl (by kernel_rfl) (fun _ _ _ h => h) (Or.inl ⟨by kernel_rfl, ?_⟩) (by assumption) ?_
  rotate_left
  focus (intro w9 hS9; obtain ⟨z0, z1, z2, z3, z4, z5, z6, z7⟩ := CB.out w9 hS9; clear hS9; go_simp; (try with_reducible rfl))
  (try simp only [List.getElem_toArray, List.getElem_cons_succ, List.getElem_cons_zero])
  (try simp only [Act.put])
  (try simp only [List.setIfInBounds_toArray])
  (repeat (first | simp only [List.set_cons_succ] | simp only [List.set_cons_zero]))
  refine wpE_take (i := 3) (v := ?_) rfl (by kernel_rfl) (fun _ _ _ h => h) (Or.inl ⟨by kernel_rfl, ?_⟩) (by assumption) ?_
  rotate_left
  focus (intro w9 hS9; obtain ⟨z0, z1, z2, z3, z4, z5, z6, z7⟩ := CA.out w9 hS9; clear hS9; go_simp; (try with_reducible rfl))
  (try simp only [List.getElem_toArray, List.getElem_cons_succ, List.getElem_cons_zero])
  (try simp only [Act.put])
  (try simp only [List.setIfInBounds_toArray])
  (repeat (first | simp only [List.set_cons_succ] | simp only [List.set_cons_zero]))
  refine wpE_ready (rs := [1, 4]) (by kernel_rfl) (by kernel_rfl) ?_
  refine AllReadyE.cons rfl (fun K hK => ?_) (AllReadyE.cons rfl (fun K hK => ?_) AllReadyE.nil)
  · rw [if_pos (show _ = true by kernel_rfl)]
    go_simp
    go_wp2_with (go_at_call 21
                 with_reducible refine (srtEx (HXE.out.step (by (repeat (first | (with_reducible exact HW.out) | (with_reducible exact Below.refl _ _) | (with_reducible apply bl_drewN) | (with_reducible apply bl_alloc) | (with_reducible apply Below.drew))); done))).mono ?_
                 rintro e w57 ⟨⟨a57, c57, rfl, sx⟩, hb⟩
                 have K57 := Lib.hid sx
                 skip
                 clear sx
                 have HV := Lib.hid (bl_trans (show Below we.heap.size we _ from (by (repeat (first | (with_reducible exact HW.out) | (with_reducible exact Below.refl _ _) | (with_reducible apply bl_drewN) | (with_reducible apply bl_alloc) | (with_reducible apply Below.drew))); done)) hb)
                 clear hb HW
                 have HW := HV
                 clear HV)
    clear hHeld
    refine hK.out _ _ ((by (repeat (first | (with_reducible exact HW.out) | (with_reducible exact Below.refl _ _) | (with_reducible apply bl_drewN) | (with_reducible apply bl_alloc) | (with_reducible apply Below.drew))); done)) (fun hHeld => ?_)
    clear hK K
    refine wpE_ready (rs := [4]) (by kernel_rfl) (by kernel_rfl) ?_
    refine AllReadyE.cons rfl (fun K hK => ?_) AllReadyE.nil
    rw [if_pos (show _ = true by kernel_rfl)]
    go_simp
    clear hHeld
    refine hK.out _ _ ((by (repeat (first | (with_reducible exact HW.out) | (with_reducible exact Below.refl _ _) | (with_reducible apply bl_drewN) | (with_reducible apply bl_alloc) | (with_reducible apply Below.drew))); done)) (fun hHeld => ?_)
    clear hK K
    refine wpE_ready (rs := [5]) (by kernel_rfl) (by kernel_rfl) ?_
    refine AllReadyE.cons rfl (fun K hK => ?_) AllReadyE.nil
    rw [if_pos (show _ = true by kernel_rfl)]
    go_simp
    go_wp2_with (go_at_call 20
                 with_reducible refine (samEx (K57.out.step (bl_alloc (Below.refl _ _) _)) (baSl (HXE.out.step (by (repeat (first | (with_reducible exact HW.out) | (with_reducible exact Below.refl _ _) | (with_reducible apply bl_drewN) | (with_reducible apply bl_alloc) | (with_reducible apply Below.drew))); done)) (by exact heap_alloc_new w57 _))).mono ?_
                 rintro e w61 ⟨rfl, hb⟩
                 have HV := Lib.hid (bl_trans (show Below we.heap.size we _ from (by (repeat (first | (with_reducible exact HW.out) | (with_reducible exact Below.refl _ _) | (with_reducible apply bl_drewN) | (with_reducible apply bl_alloc) | (with_reducible apply Below.drew))); done)) hb)
                 clear hb HW
                 have HW := HV
                 clear HV)
    clear hHeld
    refine hK.out _ _ ((by (repeat (first | (with_reducible exact HW.out) | (with_reducible exact Below.refl _ _) | (with_reducible apply bl_drewN) | (with_reducible apply bl_alloc) | (with_reducible apply Below.drew))); done)) (fun hHeld => ?_)
    clear hK K
    refine wpE_take (i := 6) (v := ?_) rfl (by kernel_rfl) (fun _ _ _ h => h) (Or.inl ⟨by kernel_rfl, ?_⟩) (by assumption) ?_
    rotate_left
    focus (intro w9 hS9; (try dsimp only at hS9); go_simp; (try with_reducible rfl))
    (try simp only [List.getElem_toArray, List.getElem_cons_succ, List.getElem_cons_zero])
    (try simp only [Act.put])
    (try simp only [List.setIfInBounds_toArray])
    (repeat (first | simp only [List.set_cons_succ] | simp only [List.set_cons_zero]))
    refine wpE_take (i := 7) (v := ?_) rfl (by kernel_rfl) (fun _ _ _ h => h) (Or.inl ⟨by kernel_rfl, ?_⟩) (by assumption) ?_
    rotate_left
    focus (intro w9 hS9; (try dsimp only at hS9); go_simp; (try with_reducible rfl))
    (try simp only [List.getElem_toArray, List.getElem_cons_succ, List.getElem_cons_zero])
    (try simp only [Act.put])
    (try simp only [List.setIfInBounds_toArray])
    (repeat (first | simp only [List.set_cons_succ] | simp only [List.set_cons_zero]))
    refine wpE_take (i := 9) (v := ?_) rfl (by kernel_rfl) (fun _ _ _ h => h) (Or.inl ⟨by kernel_rfl, ?_⟩) (by assumption) ?_
    rotate_left
    focus (intro w9 hS9; obtain ⟨z0, z1, z2, z3, z4, z5, z6, z7⟩ := CB.out w9 hS9; clear hS9; go_simp; (try with_reducible rfl))
    (try simp only [List.getElem_toArray, List.getElem_cons_succ, List.getElem_cons_zero])
    (try simp only [Act.put])
    (try simp only [List.setIfInBounds_toArray])
    (repeat (first | simp only [List.set_cons_succ] | simp only [List.set_cons_zero]))
    refine wpE_take (i := 10) (v := ?_) rfl (by kernel_rfl) (fun _ _ _ h => h) (Or.inl ⟨by kernel_rfl, ?_⟩) (by assumption) ?_
    rotate_left
    focus (intro w9 hS9; obtain ⟨z0, z1, z2, z3, z4, z5, z6, z7⟩ := CA.out w9 hS9; clear hS9; go_simp; (try with_reducible rfl))
    (try simp only [List.getElem_toArray, List.getElem_cons_succ, List.getElem_cons_zero])
    (try simp only [Act.put])
    (try simp only [List.setIfInBounds_toArray])
    (repeat (first | simp only [List.set_cons_succ] | simp only [List.set_cons_zero]))
    refine wpE_ready (rs := [8, 11]) (by kernel_rfl) (by kernel_rfl) ?_
    refine AllReadyE.cons rfl (fun K hK => ?_) (AllReadyE.cons rfl (fun K hK => ?_) AllReadyE.nil)
    · rw [if_pos (show _ = true by kernel_rfl)]
      go_simp
      go_wp2_with (go_at_call 25
                   with_reducible refine (ofEx1 (HXE.out.step (by (repeat (first | (with_reducible exact HW.out) | (with_reducible exact Below.refl _ _) | (with_reducible apply bl_drewN) | (with_reducible apply bl_alloc) | (with_reducible apply Below.drew))); done))).mono ?_
                   rintro e w64 ⟨⟨a64, c64, rfl, sx⟩, hb⟩
                   have K64 := Lib.hid sx
                   skip
                   clear sx
                   have HV := Lib.hid (bl_trans (show Below we.heap.size we _ from (by (repeat (first | (with_reducible exact HW.out) | (with_reducible exact Below.refl _ _) | (with_reducible apply bl_drewN) | (with_reducible apply bl_alloc) | (with_reducible apply Below.drew))); done)) hb)
                   clear hb HW
                   have HW := HV
                   clear HV)
      clear hHeld
      refine hK.out _ _ ((by (repeat (first | (with_reducible exact HW.out) | (with_reducible exact Below.refl _ _) | (with_reducible apply bl_drewN) | (with_reducible apply bl_alloc) | (with_reducible apply Below.drew))); done)) (fun hHeld => ?_)
      clear hK K
      refine wpE_ready (rs := [11]) (by kernel_rfl) (by kernel_rfl) ?_
      refine AllReadyE.cons rfl (fun K hK => ?_) AllReadyE.nil
      rw [if_pos (show _ = true by kernel_rfl)]
      go_simp
      clear hHeld
      refine hK.out _ _ ((by (repeat (first | (with_reducible exact HW.out) | (with_reducible exact Below.refl _ _) | (with_reducible apply bl_drewN) | (with_reducible apply bl_alloc) | (with_reducible apply Below.drew))); done)) (fun hHeld => ?_)
      clear hK K
      refine wpE_ready (rs := [12]) (by kernel_rfl) (by kernel_rfl) ?_
      refine AllReadyE.cons rfl (fun K hK => ?_) AllReadyE.nil
      rw [if_pos (show _ = true by kernel_rfl)]
      go_simp
      go_wp2_with (go_at_call 20
                   with_reducible refine (samEx (K64.out.step (bl_alloc (Below.refl _ _) _)) (baSl (HXE.out.step (by (repeat (first | (with_reducible exact HW.out) | (with_reducible exact Below.refl _ _) | (with_reducible apply bl_drewN) | (with_reducible apply bl_alloc) | (with_reducible apply Below.drew))); done)) (by exact heap_alloc_new w64 _))).mono ?_
                   rintro e w68 ⟨rfl, hb⟩
                   have HV := Lib.hid (bl_trans (show Below we.heap.size we _ from (by (repeat (first | (with_reducible exact HW.out) | (with_reducible exact Below.refl _ _) | (with_reducible apply bl_drewN) | (with_reducible apply bl_alloc) | (with_reducible apply Below.drew))); done)) hb)
                   clear hb HW
                   have HW := HV
                   clear HV)
      clear hHeld
      refine hK.out _ _ ((by (repeat (first | (with_reducible exact HW.out) | (with_reducible exact Below.refl _ _) | (with_reducible apply bl_drewN) | (with_reducible apply bl_alloc) | (with_reducible apply Below.drew))); done)) (fun hHeld => ?_)
      clear hK K
      refine wpE_take (i := 13) (v := ?_) rfl (by kernel_rfl) (fun _ _ _ h => h) (Or.inl ⟨by kernel_rfl, ?_⟩) (by assumption) ?_
      rotate_left
      focus (intro w9 hS9; (try dsimp only at hS9); go_simp; (try with_reducible rfl))
      (try simp only [List.getElem_toArray, List.getElem_cons_succ, List.getElem_cons_zero])
      (try simp only [Act.put])
      (try simp only [List.setIfInBounds_toArray])
      (repeat (first | simp only [List.set_cons_succ] | simp only [List.set_cons_zero]))
      refine wpE_take (i := 14) (v := ?_) rfl (by kernel_rfl) (fun _ _ _ h => h) (Or.inl ⟨by kernel_rfl, ?_⟩) (by assumption) ?_
      rotate_left
      focus (intro w9 hS9; (try dsimp only at hS9); go_simp; (try with_reducible rfl))
      (try simp only [List.getElem_toArray, List.getElem_cons_succ, List.getElem_cons_zero])
      (try simp only [Act.put])
      (try simp only [List.setIfInBounds_toArray])
      (repeat (first | simp only [List.set_cons_succ] | simp only [List.set_cons_zero]))
      refine wpE_take (i := 15) (v := ?_) rfl (by kernel_rfl) (fun _ _ _ h => h) (Or.inl ⟨by kernel_rfl, ?_⟩) (by assumption) ?_
      rotate_left
      focus (intro w9 hS9; (try dsimp only at hS9); go_simp; (try with_reducible rfl))
      (try simp only [List.getElem_toArray, List.getElem_cons_succ, List.getElem_cons_zero])
      (try simp only [Act.put])
      (try simp only [List.setIfInBounds_toArray])
      (repeat (first | simp only [List.set_cons_succ] | simp only [List.set_cons_zero]))
      refine wpE_ready (rs := [16]) (by kernel_rfl) (by kernel_rfl) ?_
      refine AllReadyE.cons rfl (fun K hK => ?_) AllReadyE.nil
      rw [if_pos (show _ = true by kernel_rfl)]
      go_simp
      go_wp2_with (go_at_call 25
                   with_reducible refine (ofEx2 (HXE.out.step (by (repeat (first | (with_reducible exact HW.out) | (with_reducible exact Below.refl _ _) | (with_reducible apply bl_drewN) | (with_reducible apply bl_alloc) | (with_reducible apply Below.drew))); done))).mono ?_
                   rintro e w72 ⟨⟨a72, c72, rfl⟩, hb⟩
                   have HV := Lib.hid (bl_trans (show Below we.heap.size we _ from (by (repeat (first | (with_reducible exact HW.out) | (with_reducible exact Below.refl _ _) | (with_reducible apply bl_drewN) | (with_reducible apply bl_alloc) | (with_reducible apply Below.drew))); done)) hb)
                   clear hb HW
                   have HW := HV
                   clear HV)
      clear hHeld
      refine hK.out _ _ ((by (repeat (first | (with_reducible exact HW.out) | (with_reducible exact Below.refl _ _) | (with_reducible apply bl_drewN) | (with_reducible apply bl_alloc) | (with_reducible apply Below.drew))); done)) (fun hHeld => ?_)
      clear hK K
      refine wpE_take (i := 17) (v := ?_) rfl (by kernel_rfl) (fun _ _ _ h => h) (Or.inl ⟨by kernel_rfl, ?_⟩) (by assumption) ?_
      rotate_left
      focus (intro w9 hS9; (try dsimp only at hS9); go_simp; (try with_reducible rfl))
      (try simp only [List.getElem_toArray, List.getElem_cons_succ, List.getElem_cons_zero])
      (try simp only [Act.put])
      (try simp only [List.setIfInBounds_toArray])
      (repeat (first | simp only [List.set_cons_succ] | simp only [List.set_cons_zero]))
      refine wpE_take (i := 18) (v := ?_) rfl (by kernel_rfl) (fun _ _ _ h => h) (Or.inl ⟨by kernel_rfl, ?_⟩) (by assumption) ?_
      rotate_left
      focus (intro w9 hS9; (try dsimp only at hS9); go_simp; (try with_reducible rfl))
      (try simp only [List.getElem_toArray, List.getElem_cons_succ, List.getElem_cons_zero])
      (try simp only [Act.put])
      (try simp only [List.setIfInBounds_toArray])
      (repeat (first | simp only [List.set_cons_succ] | simp only [List.set_cons_zero]))
      refine wpE_take (i := 19) (v := ?_) rfl (by kernel_rfl) (fun _ _ _ h => h) (Or.inl ⟨by kernel_rfl, ?_⟩) (by assumption) ?_
      rotate_left
      focus (intro w9 hS9; (try dsimp only at hS9); go_simp; (try with_reducible rfl))
      (try simp only [List.getElem_toArray, List.getElem_cons_succ, List.getElem_cons_zero])
      (try simp only [Act.put])
      (try simp only [List.setIfInBounds_toArray])
      (repeat (first | simp only [List.set_cons_succ] | simp only [List.set_cons_zero]))
      refine wpE_take (i := 20) (v := ?_) rfl (by kernel_rfl) (fun _ _ _ h => h) (Or.inl ⟨by kernel_rfl, ?_⟩) (by assumption) ?_
      rotate_left
      focus (intro w9 hS9; (try dsimp only at hS9); go_simp; (try with_reducible rfl))
      (try simp only [List.getElem_toArray, List.getElem_cons_succ, List.getElem_cons_zero])
      (try simp only [Act.put])
      (try simp only [List.setIfInBounds_toArray])
      (repeat (first | simp only [List.set_cons_succ] | simp only [List.set_cons_zero]))
      refine wpE_take (i := 21) (v := ?_) rfl (by kernel_rfl) (fun _ _ _ h => h) (Or.inl ⟨by kernel_rfl, ?_⟩) (by assumption) ?_
      rotate_left
      focus (intro w9 hS9; (try dsimp only at hS9); go_simp; (try with_reducible rfl))
      (try simp only [List.getElem_toArray, List.getElem_cons_succ, List.getElem_cons_zero])
      (try simp only [Act.put])
      (try simp only [List.setIfInBounds_toArray])
      (repeat (first | simp only [List.set_cons_succ] | simp only [List.set_cons_zero]))
      refine wpE_ready (rs := [22, 23]) (by kernel_rfl) (by kernel_rfl) ?_
      refine AllReadyE.cons rfl (fun K hK => ?_) (AllReadyE.cons rfl (fun K hK => ?_) AllReadyE.nil)
      · rw [if_pos (show _ = true by kernel_rfl)]
        go_simp
        go_wp2_with (go_at_call 28
                     with_reducible refine (vehEx (HXE.out.step (by (repeat (first | (with_reducible exact HW.out) | (with_reducible exact Below.refl _ _) | (with_reducible apply bl_drewN) | (with_reducible apply bl_alloc) | (with_reducible apply Below.drew))); done))).mono ?_
                     rintro e w78 ⟨⟨a78, c78, rfl, sx⟩, hb⟩
                     have K78 := Lib.hid sx
                     skip
                     clear sx
                     have HV := Lib.hid (bl_trans (show Below we.heap.size we _ from (by (repeat (first | (with_reducible exact HW.out) | (with_reducible exact Below.refl _ _) | (with_reducible apply bl_drewN) | (with_reducible apply bl_alloc) | (with_reducible apply Below.drew))); done)) hb)
                     clear hb HW
                     have HW := HV
                     clear HV)
        clear hHeld
        refine hK.out _ _ ((by (repeat (first | (with_reducible exact HW.out) | (with_reducible exact Below.refl _ _) | (with_reducible apply bl_drewN) | (with_reducible apply bl_alloc) | (with_reducible apply Below.drew))); done)) (fun hHeld => ?_)
        clear hK K
        refine wpE_ready (rs := [23]) (by kernel_rfl) (by kernel_rfl) ?_
        refine AllReadyE.cons rfl (fun K hK => ?_) AllReadyE.nil
        rw [if_pos (show _ = true by kernel_rfl)]
        go_simp
        clear hHeld
        refine hK.out _ _ ((by (repeat (first | (with_reducible exact HW.out) | (with_reducible exact Below.refl _ _) | (with_reducible apply bl_drewN) | (with_reducible apply bl_alloc) | (with_reducible apply Below.drew))); done)) (fun hHeld => ?_)
        clear hK K
        refine wpE_ready (rs := [24]) (by kernel_rfl) (by kernel_rfl) ?_
        refine AllReadyE.cons rfl (fun K hK => ?_) AllReadyE.nil
        rw [if_pos (show _ = true by kernel_rfl)]
        go_simp
        go_wp2_with (go_at_call 27
                     with_reducible refine (stxEx (K78.out.step (bl_alloc (Below.refl _ _) _)) (tSl (by exact heap_alloc_new w78 _))).mono ?_
                     rintro e w80 ⟨rfl, hb⟩
                     have HV := Lib.hid (bl_trans (show Below we.heap.size we _ from (by (repeat (first | (with_reducible exact HW.out) | (with_reducible exact Below.refl _ _) | (with_reducible apply bl_drewN) | (with_reducible apply bl_alloc) | (with_reducible apply Below.drew))); done)) hb)
                     clear hb HW
                     have HW := HV
                     clear HV)
        clear hHeld
        refine hK.out _ _ ((by (repeat (first | (with_reducible exact HW.out) | (with_reducible exact Below.refl _ _) | (with_reducible apply bl_drewN) | (with_reducible apply bl_alloc) | (with_reducible apply Below.drew))); done)) (fun hHeld => ?_)
        clear hK K
        refine wpE_take (i := 25) (v := ?_) rfl (by kernel_rfl) (fun _ _ _ h => h) (Or.inl ⟨by kernel_rfl, ?_⟩) (by assumption) ?_
        rotate_left
        focus (intro w9 hS9; (try dsimp only at hS9); go_simp; (try with_reducible rfl))
        (try simp only [List.getElem_toArray, List.getElem_cons_succ, List.getElem_cons_zero])
        (try simp only [Act.put])
        (try simp only [List.setIfInBounds_toArray])
        (repeat (first | simp only [List.set_cons_succ] | simp only [List.set_cons_zero]))
        refine wpE_take (i := 26) (v := ?_) rfl (by kernel_rfl) (fun _ _ _ h => h) (Or.inl ⟨by kernel_rfl, ?_⟩) (by assumption) ?_
        rotate_left
        focus (intro w9 hS9; (try dsimp only at hS9); go_simp; (try with_reducible rfl))
        (try simp only [List.getElem_toArray, List.getElem_cons_succ, List.getElem_cons_zero])
        (try simp only [Act.put])
        (try simp only [List.setIfInBounds_toArray])
        (repeat (first | simp only [List.set_cons_succ] | simp only [List.set_cons_zero]))
        refine wpE_take (i := 27) (v := ?_) rfl (by kernel_rfl) (fun _ _ _ h => h) (Or.inl ⟨by kernel_rfl, ?_⟩) (by assumption) ?_
        rotate_left
        focus (intro w9 hS9; (try dsimp only at hS9); go_simp; (try with_reducible rfl))
        (try simp only [List.getElem_toArray, List.getElem_cons_succ, List.getElem_cons_zero])
        (try simp only [Act.put])
        (try simp only [List.setIfInBounds_toArray])
        (repeat (first | simp only [List.set_cons_succ] | simp only [List.set_cons_zero]))
        refine wpE_take (i := 28) (v := ?_) rfl (by kernel_rfl) (fun _ _ _ h => h) (Or.inl ⟨by kernel_rfl, ?_⟩) (by assumption) ?_
        rotate_left
        focus (intro w9 hS9; obtain ⟨z0, z1, z2, z3, z4, z5, z6, z7⟩ := CA.out w9 hS9; clear hS9; go_simp; (try with_reducible rfl))
        (try simp only [List.getElem_toArray, List.getElem_cons_succ, List.getElem_cons_zero])
        (try simp only [Act.put])
        (try simp only [List.setIfInBounds_toArray])
        (repeat (first | simp only [List.set_cons_succ] | simp only [List.set_cons_zero]))
        refine wpE_ready (rs := [29]) (by kernel_rfl) (by kernel_rfl) ?_
        refine AllReadyE.cons rfl (fun K hK => ?_) AllReadyE.nil
        rw [if_pos (show _ = true by kernel_rfl)]
        go_simp
        clear hHeld
        refine hK.out _ _ ((by (repeat (first | (with_reducible exact HW.out) | (with_reducible exact Below.refl _ _) | (with_reducible apply bl_drewN) | (with_reducible apply bl_alloc) | (with_reducible apply Below.drew))); done)) (fun hHeld => ?_)
        clear hK K
        refine wpE_ready (rs := [30]) (by kernel_rfl) (by kernel_rfl) ?_
        refine AllReadyE.cons rfl (fun K hK => ?_) AllReadyE.nil
        rw [if_pos (show _ = true by kernel_rfl)]
        go_simp
        go_wp2_with (go_at_call 20
                     with_reducible refine (samEx (S1e.out.step (by (repeat (first | (with_reducible exact HW.out) | (with_reducible exact Below.refl _ _) | (with_reducible apply bl_drewN) | (with_reducible apply bl_alloc) | (with_reducible apply Below.drew))); done)) (aSl (HXE.out.step (by (repeat (first | (with_reducible exact HW.out) | (with_reducible exact Below.refl _ _) | (with_reducible apply bl_drewN) | (with_reducible apply bl_alloc) | (with_reducible apply Below.drew))); done)) (by exact heap_alloc_new w80 _))).mono ?_
                     rintro e w86 ⟨rfl, hb⟩
                     have HV := Lib.hid (bl_trans (show Below we.heap.size we _ from (by (repeat (first | (with_reducible exact HW.out) | (with_reducible exact Below.refl _ _) | (with_reducible apply bl_drewN) | (with_reducible apply bl_alloc) | (with_reducible apply Below.drew))); done)) hb)
                     clear hb HW
                     have HW := HV
                     clear HV)
        clear hHeld
        refine hK.out _ _ ((by (repeat (first | (with_reducible exact HW.out) | (with_reducible exact Below.refl _ _) | (with_reducible apply bl_drewN) | (with_reducible apply bl_alloc) | (with_reducible apply Below.drew))); done)) (fun hHeld => ?_)
        clear hK K
        refine wpE_take (i := 31) (v := ?_) rfl (by kernel_rfl) (fun _ _ _ h => h) (Or.inl ⟨by kernel_rfl, ?_⟩) (by assumption) ?_
        rotate_left
        focus (intro w9 hS9; (try dsimp only at hS9); go_simp; (try with_reducible rfl))
        (try simp only [List.getElem_toArray, List.getElem_cons_succ, List.getElem_cons_zero])
        (try simp only [Act.put])
        (try simp only [List.setIfInBounds_toArray])
        (repeat (first | simp only [List.set_cons_succ] | simp only [List.set_cons_zero]))
        refine wpE_take (i := 32) (v := ?_) rfl (by kernel_rfl) (fun _ _ _ h => h) (Or.inl ⟨by kernel_rfl, ?_⟩) (by assumption) ?_
        rotate_left
        focus (intro w9 hS9; (try dsimp only at hS9); go_simp; (try with_reducible rfl))
        (try simp only [List.getElem_toArray, List.getElem_cons_succ, List.getElem_cons_zero])
        (try simp only [Act.put])
        (try simp only [List.setIfInBounds_toArray])
        (repeat (first | simp only [List.set_cons_succ] | simp only [List.set_cons_zero]))
        refine wpE_take (i := 33) (v := ?_) rfl (by kernel_rfl) (fun _ _ _ h => h) (Or.inl ⟨by kernel_rfl, ?_⟩) (by assumption) ?_
        rotate_left
        focus (intro w9 hS9; (try dsimp only at hS9); go_simp; (try with_reducible rfl))
        (try simp only [List.getElem_toArray, List.getElem_cons_succ, List.getElem_cons_zero])
        (try simp only [Act.put])
        (try simp only [List.setIfInBounds_toArray])
        (repeat (first | simp only [List.set_cons_succ] | simp only [List.set_cons_zero]))
        refine wpE_take (i := 34) (v := ?_) rfl (by kernel_rfl) (fun _ _ _ h => h) (Or.inl ⟨by kernel_rfl, ?_⟩) (by assumption) ?_
        rotate_left
        focus (intro w9 hS9; (try dsimp only at hS9); go_simp; (try with_reducible rfl))
        (try simp only [List.getElem_toArray, List.getElem_cons_succ, List.getElem_cons_zero])
        (try simp only [Act.put])
        (try simp only [List.setIfInBounds_toArray])
        (repeat (first | simp only [List.set_cons_succ] | simp only [List.set_cons_zero]))
        refine wpE_take (i := 35) (v := ?_) rfl (by kernel_rfl) (fun _ _ _ h => h) (Or.inl ⟨by kernel_rfl, ?_⟩) (by assumption) ?_
        rotate_left
        focus (intro w9 hS9; (try dsimp only at hS9); go_simp; (try with_reducible rfl))
        (try simp only [List.getElem_toArray, List.getElem_cons_succ, List.getElem_cons_zero])
        (try simp only [Act.put])
        (try simp only [List.setIfInBounds_toArray])
        (repeat (first | simp only [List.set_cons_succ] | simp only [List.set_cons_zero]))
        refine wpE_take (i := 36) (v := ?_) rfl (by kernel_rfl) (fun _ _ _ h => h) (Or.inl ⟨by kernel_rfl, ?_⟩) (by assumption) ?_
        rotate_left
        focus (intro w9 hS9; (try dsimp only at hS9); go_simp; (try with_reducible rfl))
        (try simp only [List.getElem_toArray, List.getElem_cons_succ, List.getElem_cons_zero])
        (try simp only [Act.put])
        (try simp only [List.setIfInBounds_toArray])
        (repeat (first | simp only [List.set_cons_succ] | simp only [List.set_cons_zero]))
        clear hHeld
        refine wpE_out (by kernel_rfl) ?_
        refine wpAny_ready (rs := [37]) (by kernel_rfl) (by simp) ?_
        refine AllReady.cons rfl (fun K hK => ?_) AllReady.nil
        rw [if_pos (show _ = true by kernel_rfl)]
        go_simp
        refine hK _ _ ?_
        clear hK K
        refine wpAny_done (by kernel_rfl) ?_ _
        go_wp2
        go_ret
        exact ⟨rfl, bl_trans HBe.out HW.out⟩
      · rw [if_pos (show _ = true by kernel_rfl)]
        go_simp
        clear hHeld
        refine hK.out _ _ ((by (repeat (first | (with_reducible exact HW.out) | (with_reducible exact Below.refl _ _) | (with_reducible apply bl_drewN) | (with_reducible apply bl_alloc) | (with_reducible apply Below.drew))); done)) (fun hHeld => ?_)
        clear hK K
        refine wpE_ready (rs := [22]) (by kernel_rfl) (by kernel_rfl) ?_
        refine AllReadyE.cons rfl (fun K hK => ?_) AllReadyE.nil
        rw [if_pos (show _ = true by kernel_rfl)]
        go_simp
        go_wp2_with (go_at_call 28
                     with_reducible refine (vehEx (HXE.out.step (by (repeat (first | (with_reducible exact HW.out) | (with_reducible exact Below.refl _ _) | (with_reducible apply bl_drewN) | (with_reducible apply bl_alloc) | (with_reducible apply Below.drew))); done))).mono ?_
                     rintro e w78 ⟨⟨a78, c78, rfl, sx⟩, hb⟩
                     have K78 := Lib.hid sx
                     have K79 := Lib.hid ((tSl (by exact heap_alloc_new w72 _)).step hb)
                     clear sx
                     have HV := Lib.hid (bl_trans (show Below we.heap.size we _ from (by (repeat (first | (with_reducible exact HW.out) | (with_reducible exact Below.refl _ _) | (with_reducible apply bl_drewN) | (with_reducible apply bl_alloc) | (with_reducible apply Below.drew))); done)) hb)
                     clear hb HW
                     have HW := HV
                     clear HV)
        clear hHeld
        refine hK.out _ _ ((by (repeat (first | (with_reducible exact HW.out) | (with_reducible exact Below.refl _ _) | (with_reducible apply bl_drewN) | (with_reducible apply bl_alloc) | (with_reducible apply Below.drew))); done)) (fun hHeld => ?_)
        clear hK K
        refine wpE_ready (rs := [24]) (by kernel_rfl) (by kernel_rfl) ?_
        refine AllReadyE.cons rfl (fun K hK => ?_) AllReadyE.nil
        rw [if_pos (show _ = true by kernel_rfl)]
        go_simp
        go_wp2_with (go_at_call 27
                     with_reducible refine (stxEx K78.out K79.out).mono ?_
                     rintro e w80 ⟨rfl, hb⟩
                     have HV := Lib.hid (bl_trans (show Below we.heap.size we _ from (by (repeat (first | (with_reducible exact HW.out) | (with_reducible exact Below.refl _ _) | (with_reducible apply bl_drewN) | (with_reducible apply bl_alloc) | (with_reducible apply Below.drew))); done)) hb)
                     clear hb HW
                     have HW := HV
                     clear HV)
        clear hHeld
        refine hK.out _ _ ((by (repeat (first | (with_reducible exact HW.out) | (with_reducible exact Below.refl _ _) | (with_reducible apply bl_drewN) | (with_reducible apply bl_alloc) | (with_reducible apply Below.drew))); done)) (fun hHeld => ?_)
        clear hK K
        refine wpE_take (i := 25) (v := ?_) rfl (by kernel_rfl) (fun _ _ _ h => h) (Or.inl ⟨by kernel_rfl, ?_⟩) (by assumption) ?_
        rotate_left
        focus (intro w9 hS9; (try dsimp only at hS9); go_simp; (try with_reducible rfl))
        (try simp only [List.getElem_toArray, List.getElem_cons_succ, List.getElem_cons_zero])
        (try simp only [Act.put])
        (try simp only [List.setIfInBounds_toArray])
        (repeat (first | simp only [List.set_cons_succ] | simp only [List.set_cons_zero]))
        refine wpE_take (i := 26) (v := ?_) rfl (by kernel_rfl) (fun _ _ _ h => h) (Or.inl ⟨by kernel_rfl, ?_⟩) (by assumption) ?_
        rotate_left
        focus (intro w9 hS9; (try dsimp only at hS9); go_simp; (try with_reducible rfl))
        (try simp only [List.getElem_toArray, List.getElem_cons_succ, List.getElem_cons_zero])
        (try simp only [Act.put])
        (try simp only [List.setIfInBounds_toArray])
        (repeat (first | simp only [List.set_cons_succ] | simp only [List.set_cons_zero]))
        refine wpE_take (i := 27) (v := ?_) rfl (by kernel_rfl) (fun _ _ _ h => h) (Or.inl ⟨by kernel_rfl, ?_⟩) (by assumption) ?_
        rotate_left
        focus (intro w9 hS9; (try dsimp only at hS9); go_simp; (try with_reducible rfl))
        (try simp only [List.getElem_toArray, List.getElem_cons_succ, List.getElem_cons_zero])
        (try simp only [Act.put])
        (try simp only [List.setIfInBounds_toArray])
        (repeat (first | simp only [List.set_cons_succ] | simp only [List.set_cons_zero]))
        refine wpE_take (i := 28) (v := ?_) rfl (by kernel_rfl) (fun _ _ _ h => h) (Or.inl ⟨by kernel_rfl, ?_⟩) (by assumption) ?_
        rotate_left
        focus (intro w9 hS9; obtain ⟨z0, z1, z2, z3, z4, z5, z6, z7⟩ := CA.out w9 hS9; clear hS9; go_simp; (try with_reducible rfl))
        (try simp only [List.getElem_toArray, List.getElem_cons_succ, List.getElem_cons_zero])
        (try simp only [Act.put])
        (try simp only [List.setIfInBounds_toArray])
        (repeat (first | simp only [List.set_cons_succ] | simp only [List.set_cons_zero]))
        refine wpE_ready (rs := [29]) (by kernel_rfl) (by kernel_rfl) ?_
        refine AllReadyE.cons rfl (fun K hK => ?_) AllReadyE.nil
        rw [if_pos (show _ = true by kernel_rfl)]
        go_simp
        clear hHeld
        refine hK.out _ _ ((by (repeat (first | (with_reducible exact HW.out) | (with_reducible exact Below.refl _ _) | (with_reducible apply bl_drewN) | (with_reducible apply bl_alloc) | (with_reducible apply Below.drew))); done)) (fun hHeld => ?_)
        clear hK K
        refine wpE_ready (rs := [30]) (by kernel_rfl) (by kernel_rfl) ?_
        refine AllReadyE.cons rfl (fun K hK => ?_) AllReadyE.nil
        rw [if_pos (show _ = true by kernel_rfl)]
        go_simp
        go_wp2_with (go_at_call 20
                     with_reducible refine (samEx (S1e.out.step (by (repeat (first | (with_reducible exact HW.out) | (with_reducible exact Below.refl _ _) | (with_reducible apply bl_drewN) | (with_reducible apply bl_alloc) | (with_reducible apply Below.drew))); done)) (aSl (HXE.out.step (by (repeat (first | (with_reducible exact HW.out) | (with_reducible exact Below.refl _ _) | (with_reducible apply bl_drewN) | (with_reducible apply bl_alloc) | (with_reducible apply Below.drew))); done)) (by exact heap_alloc_new w80 _))).mono ?_
                     rintro e w86 ⟨rfl, hb⟩
                     have HV := Lib.hid (bl_trans (show Below we.heap.size we _ from (by (repeat (first | (with_reducible exact HW.out) | (with_reducible exact Below.refl _ _) | (with_reducible apply bl_drewN) | (with_reducible apply bl_alloc) | (with_reducible apply Below.drew))); done)) hb)
                     clear hb HW
                     have HW := HV
                     clear HV)
        clear hHeld
        refine hK.out _ _ ((by (repeat (first | (with_reducible exact HW.out) | (with_reducible exact Below.refl _ _) | (with_reducible apply bl_drewN) | (with_reducible apply bl_alloc) | (with_reducible apply Below.drew))); done)) (fun hHeld => ?_)
        clear hK K
        refine wpE_take (i := 31) (v := ?_) rfl (by kernel_rfl) (fun _ _ _ h => h) (Or.inl ⟨by kernel_rfl, ?_⟩) (by assumption) ?_
        rotate_left
        focus (intro w9 hS9; (try dsimp only at hS9); go_simp; (try with_reducible rfl))
        (try simp only [List.getElem_toArray, List.getElem_cons_succ, List.getElem_cons_zero])
        (try simp only [Act.put])
        (try simp only [List.setIfInBounds_toArray])
        (repeat (first | simp only [List.set_cons_succ] | simp only [List.set_cons_zero]))
        refine wpE_take (i := 32) (v := ?_) rfl (by kernel_rfl) (fun _ _ _ h => h) (Or.inl ⟨by kernel_rfl, ?_⟩) (by assumption) ?_
        rotate_left
        focus (intro w9 hS9; (try dsimp only at hS9); go_simp; (try with_reducible rfl))
        (try simp only [List.getElem_toArray, List.getElem_cons_succ, List.getElem_cons_zero])
        (try simp only [Act.put])
        (try simp only [List.setIfInBounds_toArray])
        (repeat (first | simp only [List.set_cons_succ] | simp only [List.set_cons_zero]))
        refine wpE_take (i := 33) (v := ?_) rfl (by kernel_rfl) (fun _ _ _ h => h) (Or.inl ⟨by kernel_rfl, ?_⟩) (by assumption) ?_
        rotate_left
        focus (intro w9 hS9; (try dsimp only at hS9); go_simp; (try with_reducible rfl))
        (try simp only [List.getElem_toArray, List.getElem_cons_succ, List.getElem_cons_zero])
        (try simp only [Act.put])
        (try simp only [List.setIfInBounds_toArray])
        (repeat (first | simp only [List.set_cons_succ] | simp only [List.set_cons_zero]))
        refine wpE_take (i := 34) (v := ?_) rfl (by kernel_rfl) (fun _ _ _ h => h) (Or.inl ⟨by kernel_rfl, ?_⟩) (by assumption) ?_
        rotate_left
        focus (intro w9 hS9; (try dsimp only at hS9); go_simp; (try with_reducible rfl))
        (try simp only [List.getElem_toArray, List.getElem_cons_succ, List.getElem_cons_zero])
        (try simp only [Act.put])
        (try simp only [List.setIfInBounds_toArray])
        (repeat (first | simp only [List.set_cons_succ] | simp only [List.set_cons_zero]))
        refine wpE_take (i := 35) (v := ?_) rfl (by kernel_rfl) (fun _ _ _ h => h) (Or.inl ⟨by kernel_rfl, ?_⟩) (by assumption) ?_
        rotate_left
        focus (intro w9 hS9; (try dsimp only at hS9); go_simp; (try with_reducible rfl))
        (try simp only [List.getElem_toArray, List.getElem_cons_succ, List.getElem_cons_zero])
        (try simp only [Act.put])
        (try simp only [List.setIfInBounds_toArray])
        (repeat (first | simp only [List.set_cons_succ] | simp only [List.set_cons_zero]))
        refine wpE_take (i := 36) (v := ?_) rfl (by kernel_rfl) (fun _ _ _ h => h) (Or.inl ⟨by kernel_rfl, ?_⟩) (by assumption) ?_
        rotate_left
        focus (intro w9 hS9; (try dsimp only at hS9); go_simp; (try with_reducible rfl))
        (try simp only [List.getElem_toArray, List.getElem_cons_succ, List.getElem_cons_zero])
        (try simp only [Act.put])
        (try simp only [List.setIfInBounds_toArray])
        (repeat (first | simp only [List.set_cons_succ] | simp only [List.set_cons_zero]))
        clear hHeld
        refine wpE_out (by kernel_rfl) ?_
        refine wpAny_ready (rs := [37]) (by kernel_rfl) (by simp) ?_
        refine AllReady.cons rfl (fun K hK => ?_) AllReady.nil
        rw [if_pos (show _ = true by kernel_rfl)]
        go_simp
        refine hK _ _ ?_
        clear hK K
        refine wpAny_done (by kernel_rfl) ?_ _
        go_wp2
        go_ret
        exact ⟨rfl, bl_trans HBe.out HW.out⟩
    · rw [if_pos (show _ = true by kernel_rfl)]
      go_simp
      clear hHeld
      refine hK.out _ _ ((by (repeat (first | (with_reducible exact HW.out) | (with_reducible exact Below.refl _ _) | (with_reducible apply bl_drewN) | (with_reducible apply bl_alloc) | (with_reducible apply Below.drew))); done)) (fun hHeld => ?_)
      clear hK K
      refine wpE_ready (rs := [8]) (by kernel_rfl) (by kernel_rfl) ?_
      refine AllReadyE.cons rfl (fun K hK => ?_) AllReadyE.nil
      rw [if_pos (show _ = true by kernel_rfl)]
      go_simp
      go_wp2_with (go_at_call 25
                   with_reducible refine (ofEx1 (HXE.out.step (by (repeat (first | (with_reducible exact HW.out) | (with_reducible exact Below.refl _ _) | (with_reducible apply bl_drewN) | (with_reducible apply bl_alloc) | (with_reducible apply Below.drew))); done))).mono ?_
                   rintro e w64 ⟨⟨a64, c64, rfl, sx⟩, hb⟩
                   have K64 := Lib.hid sx
                   have K67 := Lib.hid ((baSl (HXE.out.step (by (repeat (first | (with_reducible exact HW.out) | (with_reducible exact Below.refl _ _) | (with_reducible apply bl_drewN) | (with_reducible apply bl_alloc) | (with_reducible apply Below.drew))); done)) (by exact heap_alloc_new w61 _)).step hb)
                   clear sx
                   have HV := Lib.hid (bl_trans (show Below we.heap.size we _ from (by (repeat (first | (with_reducible exact HW.out) | (with_reducible exact Below.refl _ _) | (with_reducible apply bl_drewN) | (with_reducible apply bl_alloc) | (with_reducible apply Below.drew))); done)) hb)
                   clear hb HW
                   have HW := HV
                   clear HV)
      clear hHeld
      refine hK.out _ _ ((by (repeat (first | (with_reducible exact HW.out) | (with_reducible exact Below.refl _ _) | (with_reducible apply bl_drewN) | (with_reducible apply bl_alloc) | (with_reducible apply Below.drew))); done)) (fun hHeld => ?_)
      clear hK K
      refine wpE_ready (rs := [12]) (by kernel_rfl) (by kernel_rfl) ?_
      refine AllReadyE.cons rfl (fun K hK => ?_) AllReadyE.nil
      rw [if_pos (show _ = true by kernel_rfl)]
      go_simp
      go_wp2_with (go_at_call 20
                   with_reducible refine (samEx K64.out K67.out).mono ?_
                   rintro e w68 ⟨rfl, hb⟩
                   have HV := Lib.hid (bl_trans (show Below we.heap.size we _ from (by (repeat (first | (with_reducible exact HW.out) | (with_reducible exact Below.refl _ _) | (with_reducible apply bl_drewN) | (with_reducible apply bl_alloc) | (with_reducible apply Below.drew))); done)) hb)
                   clear hb HW
                   have HW := HV
                   clear HV)
      clear hHeld
      refine hK.out _ _ ((by (repeat (first | (with_reducible exact HW.out) | (with_reducible exact Below.refl _ _) | (with_reducible apply bl_drewN) | (with_reducible apply bl_alloc) | (with_reducible apply Below.drew))); done)) (fun hHeld => ?_)
      clear hK K
      refine wpE_take (i := 13) (v := ?_) rfl (by kernel_rfl) (fun _ _ _ h => h) (Or.inl ⟨by kernel_rfl, ?_⟩) (by assumption) ?_
      rotate_left
      focus (intro w9 hS9; (try dsimp only at hS9); go_simp; (try with_reducible rfl))
      (try simp only [List.getElem_toArray, List.getElem_cons_succ, List.getElem_cons_zero])
      (try simp only [Act.put])
      (try simp only [List.setIfInBounds_toArray])
      (repeat (first | simp only [List.set_cons_succ] | simp only [List.set_cons_zero]))
      refine wpE_take (i := 14) (v := ?_) rfl (by kernel_rfl) (fun _ _ _ h => h) (Or.inl ⟨by kernel_rfl, ?_⟩) (by assumption) ?_
      rotate_left
      focus (intro w9 hS9; (try dsimp only at hS9); go_simp; (try with_reducible rfl))
      (try simp only [List.getElem_toArray, List.getElem_cons_succ, List.getElem_cons_zero])
      (try simp only [Act.put])
      (try simp only [List.setIfInBounds_toArray])
      (repeat (first | simp only [List.set_cons_succ] | simp only [List.set_cons_zero]))
      refine wpE_take (i := 15) (v := ?_) rfl (by kernel_rfl) (fun _ _ _ h => h) (Or.inl ⟨by kernel_rfl, ?_⟩) (by assumption) ?_
      rotate_left
      focus (intro w9 hS9; (try dsimp only at hS9); go_simp; (try with_reducible rfl))
      (try simp only [List.getElem_toArray, List.getElem_cons_succ, List.getElem_cons_zero])
      (try simp only [Act.put])
      (try simp only [List.setIfInBounds_toArray])
      (repeat (first | simp only [List.set_cons_succ] | simp only [List.set_cons_zero]))
      refine wpE_ready (rs := [16]) (by kernel_rfl) (by kernel_rfl) ?_
      refine AllReadyE.cons rfl (fun K hK => ?_) AllReadyE.nil
      rw [if_pos (show _ = true by kernel_rfl)]
      go_simp
      go_wp2_with (go_at_call 25
                   with_reducible refine (ofEx2 (HXE.out.step (by (repeat (first | (with_reducible exact HW.out) | (with_reducible exact Below.refl _ _) | (with_reducible apply bl_drewN) | (with_reducible apply bl_alloc) | (with_reducible apply Below.drew))); done))).mono ?_
                   rintro e w72 ⟨⟨a72, c72, rfl⟩, hb⟩
                   have HV := Lib.hid (bl_trans (show Below we.heap.size we _ from (by (repeat (first | (with_reducible exact HW.out) | (with_reducible exact Below.refl _ _) | (with_reducible apply bl_drewN) | (with_reducible apply bl_alloc) | (with_reducible apply Below.drew))); done)) hb)
                   clear hb HW
                   have HW := HV
                   clear HV)
      clear hHeld
      refine hK.out _ _ ((by (repeat (first | (with_reducible exact HW.out) | (with_reducible exact Below.refl _ _) | (with_reducible apply bl_drewN) | (with_reducible apply bl_alloc) | (with_reducible apply Below.drew))); done)) (fun hHeld => ?_)
      clear hK K
      refine wpE_take (i := 17) (v := ?_) rfl (by kernel_rfl) (fun _ _ _ h => h) (Or.inl ⟨by kernel_rfl, ?_⟩) (by assumption) ?_
      rotate_left
      focus (intro w9 hS9; (try dsimp only at hS9); go_simp; (try with_reducible rfl))
      (try simp only [List.getElem_toArray, List.getElem_cons_succ, List.getElem_cons_zero])
      (try simp only [Act.put])
      (try simp only [List.setIfInBounds_toArray])
      (repeat (first | simp only [List.set_cons_succ] | simp only [List.set_cons_zero]))
      refine wpE_take (i := 18) (v := ?_) rfl (by kernel_rfl) (fun _ _ _ h => h) (Or.inl ⟨by kernel_rfl, ?_⟩) (by assumption) ?_
      rotate_left
      focus (intro w9 hS9; (try dsimp only at hS9); go_simp; (try with_reducible rfl))
      (try simp only [List.getElem_toArray, List.getElem_cons_succ, List.getElem_cons_zero])
      (try simp only [Act.put])
      (try simp only [List.setIfInBounds_toArray])
      (repeat (first | simp only [List.set_cons_succ] | simp only [List.set_cons_zero]))
      refine wpE_take (i := 19) (v := ?_) rfl (by kernel_rfl) (fun _ _ _ h => h) (Or.inl ⟨by kernel_rfl, ?_⟩) (by assumption) ?_
      rotate_left
      focus (intro w9 hS9; (try dsimp only at hS9); go_simp; (try with_reducible rfl))
      (try simp only [List.getElem_toArray, List.getElem_cons_succ, List.getElem_cons_zero])
      (try simp only [Act.put])
      (try simp only [List.setIfInBounds_toArray])
      (repeat (first | simp only [List.set_cons_succ] | simp only [List.set_cons_zero]))
      refine wpE_take (i := 20) (v := ?_) rfl (by kernel_rfl) (fun _ _ _ h => h) (Or.inl ⟨by kernel_rfl, ?_⟩) (by assumption) ?_
      rotate_left
      focus (intro w9 hS9; (try dsimp only at hS9); go_simp; (try with_reducible rfl))
      (try simp only [List.getElem_toArray, List.getElem_cons_succ, List.getElem_cons_zero])
      (try simp only [Act.put])
      (try simp only [List.setIfInBounds_toArray])
      (repeat (first | simp only [List.set_cons_succ] | simp only [List.set_cons_zero]))
      refine wpE_take (i := 21) (v := ?_) rfl (by kernel_rfl) (fun _ _ _ h => h) (Or.inl ⟨by kernel_rfl, ?_⟩) (by assumption) ?_
      rotate_left
      focus (intro w9 hS9; (try dsimp only at hS9); go_simp; (try with_reducible rfl))
      (try simp only [List.getElem_toArray, List.getElem_cons_succ, List.getElem_cons_zero])
      (try simp only [Act.put])
      (try simp only [List.setIfInBounds_toArray])
      (repeat (first | simp only [List.set_cons_succ] | simp only [List.set_cons_zero]))
      refine wpE_ready (rs := [22, 23]) (by kernel_rfl) (by kernel_rfl) ?_
      refine AllReadyE.cons rfl (fun K hK => ?_) (AllReadyE.cons rfl (fun K hK => ?_) AllReadyE.nil)
      · rw [if_pos (show _ = true by kernel_rfl)]
        go_simp
        go_wp2_with (go_at_call 28
                     with_reducible refine (vehEx (HXE.out.step (by (repeat (first | (with_reducible exact HW.out) | (with_reducible exact Below.refl _ _) | (with_reducible apply bl_drewN) | (with_reducible apply bl_alloc) | (with_reducible apply Below.drew))); done))).mono ?_
                     rintro e w78 ⟨⟨a78, c78, rfl, sx⟩, hb⟩
                     have K78 := Lib.hid sx
                     skip
                     clear sx
                     have HV := Lib.hid (bl_trans (show Below we.heap.size we _ from (by (repeat (first | (with_reducible exact HW.out) | (with_reducible exact Below.refl _ _) | (with_reducible apply bl_drewN) | (with_reducible apply bl_alloc) | (with_reducible apply Below.drew))); done)) hb)
                     clear hb HW
                     have HW := HV
                     clear HV)
        clear hHeld
        refine hK.out _ _ ((by (repeat (first | (with_reducible exact HW.out) | (with_reducible exact Below.refl _ _) | (with_reducible apply bl_drewN) | (with_reducible apply bl_alloc) | (with_reducible apply Below.drew))); done)) (fun hHeld => ?_)
        clear hK K
        refine wpE_ready (rs := [23]) (by kernel_rfl) (by kernel_rfl) ?_
        refine AllReadyE.cons rfl (fun K hK => ?_) AllReadyE.nil
        rw [if_pos (show _ = true by kernel_rfl)]
        go_simp
        clear hHeld
        refine hK.out _ _ ((by (repeat (first | (with_reducible exact HW.out) | (with_reducible exact Below.refl _ _) | (with_reducible apply bl_drewN) | (with_reducible apply bl_alloc) | (with_reducible apply Below.drew))); done)) (fun hHeld => ?_)
        clear hK K
        refine wpE_ready (rs := [24]) (by kernel_rfl) (by kernel_rfl) ?_
        refine AllReadyE.cons rfl (fun K hK => ?_) AllReadyE.nil
        rw [if_pos (show _ = true by kernel_rfl)]
        go_simp
        go_wp2_with (go_at_call 27
                     with_reducible refine (stxEx (K78.out.step (bl_alloc (Below.refl _ _) _)) (tSl (by exact heap_alloc_new w78 _))).mono ?_
                     rintro e w80 ⟨rfl, hb⟩
                     have HV := Lib.hid (bl_trans (show Below we.heap.size we _ from (by (repeat (first | (with_reducible exact HW.out) | (with_reducible exact Below.refl _ _) | (with_reducible apply bl_drewN) | (with_reducible apply bl_alloc) | (with_reducible apply Below.drew))); done)) hb)
                     clear hb HW
                     have HW := HV
                     clear HV)
        clear hHeld
        refine hK.out _ _ ((by (repeat (first | (with_reducible exact HW.out) | (with_reducible exact Below.refl _ _) | (with_reducible apply bl_drewN) | (with_reducible apply bl_alloc) | (with_reducible apply Below.drew))); done)) (fun hHeld => ?_)
        clear hK K
        refine wpE_take (i := 25) (v := ?_) rfl (by kernel_rfl) (fun _ _ _ h => h) (Or.inl ⟨by kernel_rfl, ?_⟩) (by assumption) ?_
        rotate_left
        focus (intro w9 hS9; (try dsimp only at hS9); go_simp; (try with_reducible rfl))
        (try simp only [List.getElem_toArray, List.getElem_cons_succ, List.getElem_cons_zero])
        (try simp only [Act.put])
        (try simp only [List.setIfInBounds_toArray])
        (repeat (first | simp only [List.set_cons_succ] | simp only [List.set_cons_zero]))
        refine wpE_take (i := 26) (v := ?_) rfl (by kernel_rfl) (fun _ _ _ h => h) (Or.inl ⟨by kernel_rfl, ?_⟩) (by assumption) ?_
        rotate_left
        focus (intro w9 hS9; (try dsimp only at hS9); go_simp; (try with_reducible rfl))
        (try simp only [List.getElem_toArray, List.getElem_cons_succ, List.getElem_cons_zero])
        (try simp only [Act.put])
        (try simp only [List.setIfInBounds_toArray])
        (repeat (first | simp only [List.set_cons_succ] | simp only [List.set_cons_zero]))
        refine wpE_take (i := 27) (v := ?_) rfl (by kernel_rfl) (fun _ _ _ h => h) (Or.inl ⟨by kernel_rfl, ?_⟩) (by assumption) ?_
        rotate_left
        focus (intro w9 hS9; (try dsimp only at hS9); go_simp; (try with_reducible rfl))
        (try simp only [List.getElem_toArray, List.getElem_cons_succ, List.getElem_cons_zero])
        (try simp only [Act.put])
        (try simp only [List.setIfInBounds_toArray])
        (repeat (first | simp only [List.set_cons_succ] | simp only [List.set_cons_zero]))
        refine wpE_take (i := 28) (v := ?_) rfl (by kernel_rfl) (fun _ _ _ h => h) (Or.inl ⟨by kernel_rfl, ?_⟩) (by assumption) ?_
        rotate_left
        focus (intro w9 hS9; obtain ⟨z0, z1, z2, z3, z4, z5, z6, z7⟩ := CA.out w9 hS9; clear hS9; go_simp; (try with_reducible rfl))
        (try simp only [List.getElem_toArray, List.getElem_cons_succ, List.getElem_cons_zero])
        (try simp only [Act.put])
        (try simp only [List.setIfInBounds_toArray])
        (repeat (first | simp only [List.set_cons_succ] | simp only [List.set_cons_zero]))
        refine wpE_ready (rs := [29]) (by kernel_rfl) (by kernel_rfl) ?_
        refine AllReadyE.cons rfl (fun K hK => ?_) AllReadyE.nil
        rw [if_pos (show _ = true by kernel_rfl)]
        go_simp
        clear hHeld
        refine hK.out _ _ ((by (repeat (first | (with_reducible exact HW.out) | (with_reducible exact Below.refl _ _) | (with_reducible apply bl_drewN) | (with_reducible apply bl_alloc) | (with_reducible apply Below.drew))); done)) (fun hHeld => ?_)
        clear hK K
        refine wpE_ready (rs := [30]) (by kernel_rfl) (by kernel_rfl) ?_
        refine AllReadyE.cons rfl (fun K hK => ?_) AllReadyE.nil
        rw [if_pos (show _ = true by kernel_rfl)]
        go_simp
        go_wp2_with (go_at_call 20
                     with_reducible refine (samEx (S1e.out.step (by (repeat (first | (with_reducible exact HW.out) | (with_reducible exact Below.refl _ _) | (with_reducible apply bl_drewN) | (with_reducible apply bl_alloc) | (with_reducible apply Below.drew))); done)) (aSl (HXE.out.step (by (repeat (first | (with_reducible exact HW.out) | (with_reducible exact Below.refl _ _) | (with_reducible apply bl_drewN) | (with_reducible apply bl_alloc) | (with_reducible apply Below.drew))); done)) (by exact heap_alloc_new w80 _))).mono ?_
                     rintro e w86 ⟨rfl, hb⟩
                     have HV := Lib.hid (bl_trans (show Below we.heap.size we _ from (by (repeat (first | (with_reducible exact HW.out) | (with_reducible exact Below.refl _ _) | (with_reducible apply bl_drewN) | (with_reducible apply bl_alloc) | (with_reducible apply Below.drew))); done)) hb)
                     clear hb HW
                     have HW := HV
                     clear HV)
        clear hHeld
        refine hK.out _ _ ((by (repeat (first | (with_reducible exact HW.out) | (with_reducible exact Below.refl _ _) | (with_reducible apply bl_drewN) | (with_reducible apply bl_alloc) | (with_reducible apply Below.drew))); done)) (fun hHeld => ?_)
        clear hK K
        refine wpE_take (i := 31) (v := ?_) rfl (by kernel_rfl) (fun _ _ _ h => h) (Or.inl ⟨by kernel_rfl, ?_⟩) (by assumption) ?_
        rotate_left
        focus (intro w9 hS9; (try dsimp only at hS9); go_simp; (try with_reducible rfl))
        (try simp only [List.getElem_toArray, List.getElem_cons_succ, List.getElem_cons_zero])
        (try simp only [Act.put])
        (try simp only [List.setIfInBounds_toArray])
        (repeat (first | simp only [List.set_cons_succ] | simp only [List.set_cons_zero]))
        refine wpE_take (i := 32) (v := ?_) rfl (by kernel_rfl) (fun _ _ _ h => h) (Or.inl ⟨by kernel_rfl, ?_⟩) (by assumption) ?_
        rotate_left
        focus (intro w9 hS9; (try dsimp only at hS9); go_simp; (try with_reducible rfl))
        (try simp only [List.getElem_toArray, List.getElem_cons_succ, List.getElem_cons_zero])
        (try simp only [Act.put])
        (try simp only [List.setIfInBounds_toArray])
        (repeat (first | simp only [List.set_cons_succ] | simp only [List.set_cons_zero]))
        refine wpE_take (i := 33) (v := ?_) rfl (by kernel_rfl) (fun _ _ _ h => h) (Or.inl ⟨by kernel_rfl, ?_⟩) (by assumption) ?_
        rotate_left
        focus (intro w9 hS9; (try dsimp only at hS9); go_simp; (try with_reducible rfl))
        (try simp only [List.getElem_toArray, List.getElem_cons_succ, List.getElem_cons_zero])
        (try simp only [Act.put])
        (try simp only [List.setIfInBounds_toArray])
        (repeat (first | simp only [List.set_cons_succ] | simp only [List.set_cons_zero]))
        refine wpE_take (i := 34) (v := ?_) rfl (by kernel_rfl) (fun _ _ _ h => h) (Or.inl ⟨by kernel_rfl, ?_⟩) (by assumption) ?_
        rotate_left
        focus (intro w9 hS9; (try dsimp only at hS9); go_simp; (try with_reducible rfl))
        (try simp only [List.getElem_toArray, List.getElem_cons_succ, List.getElem_cons_zero])
        (try simp only [Act.put])
        (try simp only [List.setIfInBounds_toArray])
        (repeat (first | simp only [List.set_cons_succ] | simp only [List.set_cons_zero]))
        refine wpE_take (i := 35) (v := ?_) rfl (by kernel_rfl) (fun _ _ _ h => h) (Or.inl ⟨by kernel_rfl, ?_⟩) (by assumption) ?_
        rotate_left
        focus (intro w9 hS9; (try dsimp only at hS9); go_simp; (try with_reducible rfl))
        (try simp only [List.getElem_toArray, List.getElem_cons_succ, List.getElem_cons_zero])
        (try simp only [Act.put])
        (try simp only [List.setIfInBounds_toArray])
        (repeat (first | simp only [List.set_cons_succ] | simp only [List.set_cons_zero]))
        refine wpE_take (i := 36) (v := ?_) rfl (by kernel_rfl) (fun _ _ _ h => h) (Or.inl ⟨by kernel_rfl, ?_⟩) (by assumption) ?_
        rotate_left
        focus (intro w9 hS9; (try dsimp only at hS9); go_simp; (try with_reducible rfl))
        (try simp only [List.getElem_toArray, List.getElem_cons_succ, List.getElem_cons_zero])
        (try simp only [Act.put])
        (try simp only [List.setIfInBounds_toArray])
        (repeat (first | simp only [List.set_cons_succ] | simp only [List.set_cons_zero]))
        clear hHeld
        refine wpE_out (by kernel_rfl) ?_
        refine wpAny_ready (rs := [37]) (by kernel_rfl) (by simp) ?_
        refine AllReady.cons rfl (fun K hK => ?_) AllReady.nil
        rw [if_pos (show _ = true by kernel_rfl)]
        go_simp
        refine hK _ _ ?_
        clear hK K
        refine wpAny_done (by kernel_rfl) ?_ _
        go_wp2
        go_ret
        exact ⟨rfl, bl_trans HBe.out HW.out⟩
      · rw [if_pos (show _ = true by kernel_rfl)]
        go_simp
        clear hHeld
        refine hK.out _ _ ((by (repeat (first | (with_reducible exact HW.out) | (with_reducible exact Below.refl _ _) | (with_reducible apply bl_drewN) | (with_reducible apply bl_alloc) | (with_reducible apply Below.drew))); done)) (fun hHeld => ?_)
        clear hK K
        refine wpE_ready (rs := [22]) (by kernel_rfl) (by kernel_rfl) ?_
        refine AllReadyE.cons rfl (fun K hK => ?_) AllReadyE.nil
        rw [if_pos (show _ = true by kernel_rfl)]
        go_simp
        go_wp2_with (go_at_call 28
                     with_reducible refine (vehEx (HXE.out.step (by (repeat (first | (with_reducible exact HW.out) | (with_reducible exact Below.refl _ _) | (with_reducible apply bl_drewN) | (with_reducible apply bl_alloc) | (with_reducible apply Below.drew))); done))).mono ?_
                     rintro e w78 ⟨⟨a78, c78, rfl, sx⟩, hb⟩
                     have K78 := Lib.hid sx
                     have K79 := Lib.hid ((tSl (by exact heap_alloc_new w72 _)).step hb)
                     clear sx
                     have HV := Lib.hid (bl_trans (show Below we.heap.size we _ from (by (repeat (first | (with_reducible exact HW.out) | (with_reducible exact Below.refl _ _) | (with_reducible apply bl_drewN) | (with_reducible apply bl_alloc) | (with_reducible apply Below.drew))); done)) hb)
                     clear hb HW
                     have HW := HV
                     clear HV)
        clear hHeld
        refine hK.out _ _ ((by (repeat (first | (with_reducible exact HW.out) | (with_reducible exact Below.refl _ _) | (with_reducible apply bl_drewN) | (with_reducible apply bl_alloc) | (with_reducible apply Below.drew))); done)) (fun hHeld => ?_)
        clear hK K
        refine wpE_ready (rs := [24]) (by kernel_rfl) (by kernel_rfl) ?_
        refine AllReadyE.cons rfl (fun K hK => ?_) AllReadyE.nil
        rw [if_pos (show _ = true by kernel_rfl)]
        go_simp
        go_wp2_with (go_at_call 27
                     with_reducible refine (stxEx K78.out K79.out).mono ?_
                     rintro e w80 ⟨rfl, hb⟩
                     have HV := Lib.hid (bl_trans (show Below we.heap.size we _ from (by (repeat (first | (with_reducible exact HW.out) | (with_reducible exact Below.refl _ _) | (with_reducible apply bl_drewN) | (with_reducible apply bl_alloc) | (with_reducible apply Below.drew))); done)) hb)
                     clear hb HW
                     have HW := HV
                     clear HV)
        clear hHeld
        refine hK.out _ _ ((by (repeat (first | (with_reducible exact HW.out) | (with_reducible exact Below.refl _ _) | (with_reducible apply bl_drewN) | (with_reducible apply bl_alloc) | (with_reducible apply Below.drew))); done)) (fun hHeld => ?_)
        clear hK K
        refine wpE_take (i := 25) (v := ?_) rfl (by kernel_rfl) (fun _ _ _ h => h) (Or.inl ⟨by kernel_rfl, ?_⟩) (by assumption) ?_
        rotate_left
        focus (intro w9 hS9; (try dsimp only at hS9); go_simp; (try with_reducible rfl))
        (try simp only [List.getElem_toArray, List.getElem_cons_succ, List.getElem_cons_zero])
        (try simp only [Act.put])
        (try simp only [List.setIfInBounds_toArray])
        (repeat (first | simp only [List.set_cons_succ] | simp only [List.set_cons_zero]))
        refine wpE_take (i := 26) (v := ?_) rfl (by kernel_rfl) (fun _ _ _ h => h) (Or.inl ⟨by kernel_rfl, ?_⟩) (by assumption) ?_
        rotate_left
        focus (intro w9 hS9; (try dsimp only at hS9); go_simp; (try with_reducible rfl))
        (try simp only [List.getElem_toArray, List.getElem_cons_succ, List.getElem_cons_zero])
        (try simp only [Act.put])
        (try simp only [List.setIfInBounds_toArray])
        (repeat (first | simp only [List.set_cons_succ] | simp only [List.set_cons_zero]))
        refine wpE_take (i := 27) (v := ?_) rfl (by kernel_rfl) (fun _ _ _ h => h) (Or.inl ⟨by kernel_rfl, ?_⟩) (by assumption) ?_
        rotate_left
        focus (intro w9 hS9; (try dsimp only at hS9); go_simp; (try with_reducible rfl))
        (try simp only [List.getElem_toArray, List.getElem_cons_succ, List.getElem_cons_zero])
        (try simp only [Act.put])
        (try simp only [List.setIfInBounds_toArray])
        (repeat (first | simp only [List.set_cons_succ] | simp only [List.set_cons_zero]))
        refine wpE_take (i := 28) (v := ?_) rfl (by kernel_rfl) (fun _ _ _ h => h) (Or.inl ⟨by kernel_rfl, ?_⟩) (by assumption) ?_
        rotate_left
        focus (intro w9 hS9; obtain ⟨z0, z1, z2, z3, z4, z5, z6, z7⟩ := CA.out w9 hS9; clear hS9; go_simp; (try with_reducible rfl))
        (try simp only [List.getElem_toArray, List.getElem_cons_succ, List.getElem_cons_zero])
        (try simp only [Act.put])
        (try simp only [List.setIfInBounds_toArray])
        (repeat (first | simp only [List.set_cons_succ] | simp only [List.set_cons_zero]))
        refine wpE_ready (rs := [29]) (by kernel_rfl) (by kernel_rfl) ?_
        refine AllReadyE.cons rfl (fun K hK => ?_) AllReadyE.nil
        rw [if_pos (show _ = true by kernel_rfl)]
        go_simp
        clear hHeld
        refine hK.out _ _ ((by (repeat (first | (with_reducible exact HW.out) | (with_reducible exact Below.refl _ _) | (with_reducible apply bl_drewN) | (with_reducible apply bl_alloc) | (with_reducible apply Below.drew))); done)) (fun hHeld => ?_)
        clear hK K
        refine wpE_ready (rs := [30]) (by kernel_rfl) (by kernel_rfl) ?_
        refine AllReadyE.cons rfl (fun K hK => ?_) AllReadyE.nil
        rw [if_pos (show _ = true by kernel_rfl)]
        go_simp
        go_wp2_with (go_at_call 20
                     with_reducible refine (samEx (S1e.out.step (by (repeat (first | (with_reducible exact HW.out) | (with_reducible exact Below.refl _ _) | (with_reducible apply bl_drewN) | (with_reducible apply bl_alloc) | (with_reducible apply Below.drew))); done)) (aSl (HXE.out.step (by (repeat (first | (with_reducible exact HW.out) | (with_reducible exact Below.refl _ _) | (with_reducible apply bl_drewN) | (with_reducible apply bl_alloc) | (with_reducible apply Below.drew))); done)) (by exact heap_alloc_new w80 _))).mono ?_
                     rintro e w86 ⟨rfl, hb⟩
                     have HV := Lib.hid (bl_trans (show Below we.heap.size we _ from (by (repeat (first | (with_reducible exact HW.out) | (with_reducible exact Below.refl _ _) | (with_reducible apply bl_drewN) | (with_reducible apply bl_alloc) | (with_reducible apply Below.drew))); done)) hb)
                     clear hb HW
                     have HW := HV
                     clear HV)
        clear hHeld
        refine hK.out _ _ ((by (repeat (first | (with_reducible exact HW.out) | (with_reducible exact Below.refl _ _) | (with_reducible apply bl_drewN) | (with_reducible apply bl_alloc) | (with_reducible apply Below.drew))); done)) (fun hHeld => ?_)
        clear hK K
        refine wpE_take (i := 31) (v := ?_) rfl (by kernel_rfl) (fun _ _ _ h => h) (Or.inl ⟨by kernel_rfl, ?_⟩) (by assumption) ?_
        rotate_left
        focus (intro w9 hS9; (try dsimp only at hS9); go_simp; (try with_reducible rfl))
        (try simp only [List.getElem_toArray, List.getElem_cons_succ, List.getElem_cons_zero])
        (try simp only [Act.put])
        (try simp only [List.setIfInBounds_toArray])
        (repeat (first | simp only [List.set_cons_succ] | simp only [List.set_cons_zero]))
        refine wpE_take (i := 32) (v := ?_) rfl (by kernel_rfl) (fun _ _ _ h => h) (Or.inl ⟨by kernel_rfl, ?_⟩) (by assumption) ?_
        rotate_left
        focus (intro w9 hS9; (try dsimp only at hS9); go_simp; (try with_reducible rfl))
        (try simp only [List.getElem_toArray, List.getElem_cons_succ, List.getElem_cons_zero])
        (try simp only [Act.put])
        (try simp only [List.setIfInBounds_toArray])
        (repeat (first | simp only [List.set_cons_succ] | simp only [List.set_cons_zero]))
        refine wpE_take (i := 33) (v := ?_) rfl (by kernel_rfl) (fun _ _ _ h => h) (Or.inl ⟨by kernel_rfl, ?_⟩) (by assumption) ?_
        rotate_left
        focus (intro w9 hS9; (try dsimp only at hS9); go_simp; (try with_reducible rfl))
        (try simp only [List.getElem_toArray, List.getElem_cons_succ, List.getElem_cons_zero])
        (try simp only [Act.put])
        (try simp only [List.setIfInBounds_toArray])
        (repeat (first | simp only [List.set_cons_succ] | simp only [List.set_cons_zero]))
        refine wpE_take (i := 34) (v := ?_) rfl (by kernel_rfl) (fun _ _ _ h => h) (Or.inl ⟨by kernel_rfl, ?_⟩) (by assumption) ?_
        rotate_left
        focus (intro w9 hS9; (try dsimp only at hS9); go_simp; (try with_reducible rfl))
        (try simp only [List.getElem_toArray, List.getElem_cons_succ, List.getElem_cons_zero])
        (try simp only [Act.put])
        (try simp only [List.setIfInBounds_toArray])
        (repeat (first | simp only [List.set_cons_succ] | simp only [List.set_cons_zero]))
        refine wpE_take (i := 35) (v := ?_) rfl (by kernel_rfl) (fun _ _ _ h => h) (Or.inl ⟨by kernel_rfl, ?_⟩) (by assumption) ?_
        rotate_left
        focus (intro w9 hS9; (try dsimp only at hS9); go_simp; (try with_reducible rfl))
        (try simp only [List.getElem_toArray, List.getElem_cons_succ, List.getElem_cons_zero])
        (try simp only [Act.put])
        (try simp only [List.setIfInBounds_toArray])
        (repeat (first | simp only [List.set_cons_succ] | simp only [List.set_cons_zero]))
        refine wpE_take (i := 36) (v := ?_) rfl (by kernel_rfl) (fun _ _ _ h => h) (Or.inl ⟨by kernel_rfl, ?_⟩) (by assumption) ?_
        rotate_left
        focus (intro w9 hS9; (try dsimp only at hS9); go_simp; (try with_reducible rfl))
        (try simp only [List.getElem_toArray, List.getElem_cons_succ, List.getElem_cons_zero])
        (try simp only [Act.put])
        (try simp only [List.setIfInBounds_toArray])
        (repeat (first | simp only [List.set_cons_succ] | simp only [List.set_cons_zero]))
        clear hHeld
        refine wpE_out (by kernel_rfl) ?_
        refine wpAny_ready (rs := [37]) (by kernel_rfl) (by simp) ?_
        refine AllReady.cons rfl (fun K hK => ?_) AllReady.nil
        rw [if_pos (show _ = true by kernel_rfl)]
        go_simp
        refine hK _ _ ?_
        clear hK K
        refine wpAny_done (by kernel_rfl) ?_ _
        go_wp2
        go_ret
        exact ⟨rfl, bl_trans HBe.out HW.out⟩
  · rw [if_pos (show _ = true by kernel_rfl)]
    go_simp
    clear hHeld
    refine hK.out _ _ ((by (repeat (first | (with_reducible exact HW.out) | (with_reducible exact Below.refl _ _) | (with_reducible apply bl_drewN) | (with_reducible apply bl_alloc) | (with_reducible apply Below.drew))); done)) (fun hHeld => ?_)
    clear hK K
    refine wpE_ready (rs := [1]) (by kernel_rfl) (by kernel_rfl) ?_
    refine AllReadyE.cons rfl (fun K hK => ?_) AllReadyE.nil
    rw [if_pos (show _ = true by kernel_rfl)]
    go_simp
    go_wp2_with (go_at_call 21
                 with_reducible refine (srtEx (HXE.out.step (by (repeat (first | (with_reducible exact HW.out) | (with_reducible exact Below.refl _ _) | (with_reducible apply bl_drewN) | (with_reducible apply bl_alloc) | (with_reducible apply Below.drew))); done))).mono ?_
                 rintro e w57 ⟨⟨a57, c57, rfl, sx⟩, hb⟩
                 have K57 := Lib.hid sx
                 have K60 := Lib.hid ((baSl (HXE.out.step (by (repeat (first | (with_reducible exact HW.out) | (with_reducible exact Below.refl _ _) | (with_reducible apply bl_drewN) | (with_reducible apply bl_alloc) | (with_reducible apply Below.drew))); done)) (by exact heap_alloc_new we _)).step hb)
                 clear sx
                 have HV := Lib.hid (bl_trans (show Below we.heap.size we _ from (by (repeat (first | (with_reducible exact HW.out) | (with_reducible exact Below.refl _ _) | (with_reducible apply bl_drewN) | (with_reducible apply bl_alloc) | (with_reducible apply Below.drew))); done)) hb)
                 clear hb HW
                 have HW := HV
                 clear HV)
    clear hHeld
    refine hK.out _ _ ((by (repeat (first | (with_reducible exact HW.out) | (with_reducible exact Below.refl _ _) | (with_reducible apply bl_drewN) | (with_reducible apply bl_alloc) | (with_reducible apply Below.drew))); done)) (fun hHeld => ?_)
    clear hK K
    refine wpE_ready (rs := [5]) (by kernel_rfl) (by kernel_rfl) ?_
    refine AllReadyE.cons rfl (fun K hK => ?_) AllReadyE.nil
    rw [if_pos (show _ = true by kernel_rfl)]
    go_simp
    go_wp2_with (go_at_call 20
                 with_reducible refine (samEx K57.out K60.out).mono ?_
                 rintro e w61 ⟨rfl, hb⟩
                 have HV := Lib.hid (bl_trans (show Below we.heap.size we _ from (by (repeat (first | (with_reducible exact HW.out) | (with_reducible exact Below.refl _ _) | (with_reducible apply bl_drewN) | (with_reducible apply bl_alloc) | (with_reducible apply Below.drew))); done)) hb)
                 clear hb HW
                 have HW := HV
                 clear HV)
    clear hHeld
    refine hK.out _ _ ((by (repeat (first | (with_reducible exact HW.out) | (with_reducible exact Below.refl _ _) | (with_reducible apply bl_drewN) | (with_reducible apply bl_alloc) | (with_reducible apply Below.drew))); done)) (fun hHeld => ?_)
    clear hK K
    refine wpE_take (i := 6) (v := ?_) rfl (by kernel_rfl) (fun _ _ _ h => h) (Or.inl ⟨by kernel_rfl, ?_⟩) (by assumption) ?_
    rotate_left
    focus (intro w9 hS9; (try dsimp only at hS9); go_simp; (try with_reducible rfl))
    (try simp only [List.getElem_toArray, List.getElem_cons_succ, List.getElem_cons_zero])
    (try simp only [Act.put])
    (try simp only [List.setIfInBounds_toArray])
    (repeat (first | simp only [List.set_cons_succ] | simp only [List.set_cons_zero]))
    refine wpE_take (i := 7) (v := ?_) rfl (by kernel_rfl) (fun _ _ _ h => h) (Or.inl ⟨by kernel_rfl, ?_⟩) (by assumption) ?_
    rotate_left
    focus (intro w9 hS9; (try dsimp only at hS9); go_simp; (try with_reducible rfl))
    (try simp only [List.getElem_toArray, List.getElem_cons_succ, List.getElem_cons_zero])
    (try simp only [Act.put])
    (try simp only [List.setIfInBounds_toArray])
    (repeat (first | simp only [List.set_cons_succ] | simp only [List.set_cons_zero]))
    refine wpE_take (i := 9) (v := ?_) rfl (by kernel_rfl) (fun _ _ _ h => h) (Or.inl ⟨by kernel_rfl, ?_⟩) (by assumption) ?_
    rotate_left
    focus (intro w9 hS9; obtain ⟨z0, z1, z2, z3, z4, z5, z6, z7⟩ := CB.out w9 hS9; clear hS9; go_simp; (try with_reducible rfl))
    (try simp only [List.getElem_toArray, List.getElem_cons_succ, List.getElem_cons_zero])
    (try simp only [Act.put])
    (try simp only [List.setIfInBounds_toArray])
    (repeat (first | simp only [List.set_cons_succ] | simp only [List.set_cons_zero]))
    refine wpE_take (i := 10) (v := ?_) rfl (by kernel_rfl) (fun _ _ _ h => h) (Or.inl ⟨by kernel_rfl, ?_⟩) (by assumption) ?_
    rotate_left
    focus (intro w9 hS9; obtain ⟨z0, z1, z2, z3, z4, z5, z6, z7⟩ := CA.out w9 hS9; clear hS9; go_simp; (try with_reducible rfl))
    (try simp only [List.getElem_toArray, List.getElem_cons_succ, List.getElem_cons_zero])
    (try simp only [Act.put])
    (try simp only [List.setIfInBounds_toArray])
    (repeat (first | simp only [List.set_cons_succ] | simp only [List.set_cons_zero]))
    refine wpE_ready (rs := [8, 11]) (by kernel_rfl) (by kernel_rfl) ?_
    refine AllReadyE.cons rfl (fun K hK => ?_) (AllReadyE.cons rfl (fun K hK => ?_) AllReadyE.nil)
    · rw [if_pos (show _ = true by kernel_rfl)]
      go_simp
      go_wp2_with (go_at_call 25
                   with_reducible refine (ofEx1 (HXE.out.step (by (repeat (first | (with_reducible exact HW.out) | (with_reducible exact Below.refl _ _) | (with_reducible apply bl_drewN) | (with_reducible apply bl_alloc) | (with_reducible apply Below.drew))); done))).mono ?_
                   rintro e w64 ⟨⟨a64, c64, rfl, sx⟩, hb⟩
                   have K64 := Lib.hid sx
                   skip
                   clear sx
                   have HV := Lib.hid (bl_trans (show Below we.heap.size we _ from (by (repeat (first | (with_reducible exact HW.out) | (with_reducible exact Below.refl _ _) | (with_reducible apply bl_drewN) | (with_reducible apply bl_alloc) | (with_reducible apply Below.drew))); done)) hb)
                   clear hb HW
                   have HW := HV
                   clear HV)
      clear hHeld
      refine hK.out _ _ ((by (repeat (first | (with_reducible exact HW.out) | (with_reducible exact Below.refl _ _) | (with_reducible apply bl_drewN) | (with_reducible apply bl_alloc) | (with_reducible apply Below.drew))); done)) (fun hHeld => ?_)
      clear hK K
      refine wpE_ready (rs := [11]) (by kernel_rfl) (by kernel_rfl) ?_
      refine AllReadyE.cons rfl (fun K hK => ?_) AllReadyE.nil
      rw [if_pos (show _ = true by kernel_rfl)]
      go_simp
      clear hHeld
      refine hK.out _ _ ((by (repeat (first | (with_reducible exact HW.out) | (with_reducible exact Below.refl _ _) | (with_reducible apply bl_drewN) | (with_reducible apply bl_alloc) | (with_reducible apply Below.drew))); done)) (fun hHeld => ?_)
      clear hK K
      refine wpE_ready (rs := [12]) (by kernel_rfl) (by kernel_rfl) ?_
      refine AllReadyE.cons rfl (fun K hK => ?_) AllReadyE.nil
      rw [if_pos (show _ = true by kernel_rfl)]
      go_simp
      go_wp2_with (go_at_call 20
                   with_reducible refine (samEx (K64.out.step (bl_alloc (Below.refl _ _) _)) (baSl (HXE.out.step (by (repeat (first | (with_reducible exact HW.out) | (with_reducible exact Below.refl _ _) | (with_reducible apply bl_drewN) | (with_reducible apply bl_alloc) | (with_reducible apply Below.drew))); done)) (by exact heap_alloc_new w64 _))).mono ?_
                   rintro e w68 ⟨rfl, hb⟩
                   have HV := Lib.hid (bl_trans (show Below we.heap.size we _ from (by (repeat (first | (with_reducible exact HW.out) | (with_reducible exact Below.refl _ _) | (with_reducible apply bl_drewN) | (with_reducible apply bl_alloc) | (with_reducible apply Below.drew))); done)) hb)
                   clear hb HW
                   have HW := HV
                   clear HV)
      clear hHeld
      refine hK.out _ _ ((by (repeat (first | (with_reducible exact HW.out) | (with_reducible exact Below.refl _ _) | (with_reducible apply bl_drewN) | (with_reducible apply bl_alloc) | (with_reducible apply Below.drew))); done)) (fun hHeld => ?_)
      clear hK K
      refine wpE_take (i := 13) (v := ?_) rfl (by kernel_rfl) (fun _ _ _ h => h) (Or.inl ⟨by kernel_rfl, ?_⟩) (by assumption) ?_
      rotate_left
      focus (intro w9 hS9; (try dsimp only at hS9); go_simp; (try with_reducible rfl))
      (try simp only [List.getElem_toArray, List.getElem_cons_succ, List.getElem_cons_zero])
      (try simp only [Act.put])
      (try simp only [List.setIfInBounds_toArray])
      (repeat (first | simp only [List.set_cons_succ] | simp only [List.set_cons_zero]))
      refine wpE_take (i := 14) (v := ?_) rfl (by kernel_rfl) (fun _ _ _ h => h) (Or.inl ⟨by kernel_rfl, ?_⟩) (by assumption) ?_
      rotate_left
      focus (intro w9 hS9; (try dsimp only at hS9); go_simp; (try with_reducible rfl))
      (try simp only [List.getElem_toArray, List.getElem_cons_succ, List.getElem_cons_zero])
      (try simp only [Act.put])
      (try simp only [List.setIfInBounds_toArray])
      (repeat (first | simp only [List.set_cons_succ] | simp only [List.set_cons_zero]))
      refine wpE_take (i := 15) (v := ?_) rfl (by kernel_rfl) (fun _ _ _ h => h) (Or.inl ⟨by kernel_rfl, ?_⟩) (by assumption) ?_
      rotate_left
      focus (intro w9 hS9; (try dsimp only at hS9); go_simp; (try with_reducible rfl))
      (try simp only [List.getElem_toArray, List.getElem_cons_succ, List.getElem_cons_zero])
      (try simp only [Act.put])
      (try simp only [List.setIfInBounds_toArray])
      (repeat (first | simp only [List.set_cons_succ] | simp only [List.set_cons_zero]))
      refine wpE_ready (rs := [16]) (by kernel_rfl) (by kernel_rfl) ?_
      refine AllReadyE.cons rfl (fun K hK => ?_) AllReadyE.nil
      rw [if_pos (show _ = true by kernel_rfl)]
      go_simp
      go_wp2_with (go_at_call 25
                   with_reducible refine (ofEx2 (HXE.out.step (by (repeat (first | (with_reducible exact HW.out) | (with_reducible exact Below.refl _ _) | (with_reducible apply bl_drewN) | (with_reducible apply bl_alloc) | (with_reducible apply Below.drew))); done))).mono ?_
                   rintro e w72 ⟨⟨a72, c72, rfl⟩, hb⟩
                   have HV := Lib.hid (bl_trans (show Below we.heap.size we _ from (by (repeat (first | (with_reducible exact HW.out) | (with_reducible exact Below.refl _ _) | (with_reducible apply bl_drewN) | (with_reducible apply bl_alloc) | (with_reducible apply Below.drew))); done)) hb)
                   clear hb HW
                   have HW := HV
                   clear HV)
      clear hHeld
      refine hK.out _ _ ((by (repeat (first | (with_reducible exact HW.out) | (with_reducible exact Below.refl _ _) | (with_reducible apply bl_drewN) | (with_reducible apply bl_alloc) | (with_reducible apply Below.drew))); done)) (fun hHeld => ?_)
      clear hK K
      refine wpE_take (i := 17) (v := ?_) rfl (by kernel_rfl) (fun _ _ _ h => h) (Or.inl ⟨by kernel_rfl, ?_⟩) (by assumption) ?_
      rotate_left
      focus (intro w9 hS9; (try dsimp only at hS9); go_simp; (try with_reducible rfl))
      (try simp only [List.getElem_toArray, List.getElem_cons_succ, List.getElem_cons_zero])
      (try simp only [Act.put])
      (try simp only [List.setIfInBounds_toArray])
      (repeat (first | simp only [List.set_cons_succ] | simp only [List.set_cons_zero]))
      refine wpE_take (i := 18) (v := ?_) rfl (by kernel_rfl) (fun _ _ _ h => h) (Or.inl ⟨by kernel_rfl, ?_⟩) (by assumption) ?_
      rotate_left
      focus (intro w9 hS9; (try dsimp only at hS9); go_simp; (try with_reducible rfl))
      (try simp only [List.getElem_toArray, List.getElem_cons_succ, List.getElem_cons_zero])
      (try simp only [Act.put])
      (try simp only [List.setIfInBounds_toArray])
      (repeat (first | simp only [List.set_cons_succ] | simp only [List.set_cons_zero]))
      refine wpE_take (i := 19) (v := ?_) rfl (by kernel_rfl) (fun _ _ _ h => h) (Or.inl ⟨by kernel_rfl, ?_⟩) (by assumption) ?_
      rotate_left
      focus (intro w9 hS9; (try dsimp only at hS9); go_simp; (try with_reducible rfl))
      (try simp only [List.getElem_toArray, List.getElem_cons_succ, List.getElem_cons_zero])
      (try simp only [Act.put])
      (try simp only [List.setIfInBounds_toArray])
      (repeat (first | simp only [List.set_cons_succ] | simp only [List.set_cons_zero]))
      refine wpE_take (i := 20) (v := ?_) rfl (by kernel_rfl) (fun _ _ _ h => h) (Or.inl ⟨by kernel_rfl, ?_⟩) (by assumption) ?_
      rotate_left
      focus (intro w9 hS9; (try dsimp only at hS9); go_simp; (try with_reducible rfl))
      (try simp only [List.getElem_toArray, List.getElem_cons_succ, List.getElem_cons_zero])
      (try simp only [Act.put])
      (try simp only [List.setIfInBounds_toArray])
      (repeat (first | simp only [List.set_cons_succ] | simp only [List.set_cons_zero]))
      refine wpE_take (i := 21) (v := ?_) rfl (by kernel_rfl) (fun _ _ _ h => h) (Or.inl ⟨by kernel_rfl, ?_⟩) (by assumption) ?_
      rotate_left
      focus (intro w9 hS9; (try dsimp only at hS9); go_simp; (try with_reducible rfl))
      (try simp only [List.getElem_toArray, List.getElem_cons_succ, List.getElem_cons_zero])
      (try simp only [Act.put])
      (try simp only [List.setIfInBounds_toArray])
      (repeat (first | simp only [List.set_cons_succ] | simp only [List.set_cons_zero]))
      refine wpE_ready (rs := [22, 23]) (by kernel_rfl) (by kernel_rfl) ?_
      refine AllReadyE.cons rfl (fun K hK => ?_) (AllReadyE.cons rfl (fun K hK => ?_) AllReadyE.nil)
      · rw [if_pos (show _ = true by kernel_rfl)]
        go_simp
        go_wp2_with (go_at_call 28
                     with_reducible refine (vehEx (HXE.out.step (by (repeat (first | (with_reducible exact HW.out) | (with_reducible exact Below.refl _ _) | (with_reducible apply bl_drewN) | (with_reducible apply bl_alloc) | (with_reducible apply Below.drew))); done))).mono ?_
                     rintro e w78 ⟨⟨a78, c78, rfl, sx⟩, hb⟩
                     have K78 := Lib.hid sx
                     skip
                     clear sx
                     have HV := Lib.hid (bl_trans (show Below we.heap.size we _ from (by (repeat (first | (with_reducible exact HW.out) | (with_reducible exact Below.refl _ _) | (with_reducible apply bl_drewN) | (with_reducible apply bl_alloc) | (with_reducible apply Below.drew))); done)) hb)
                     clear hb HW
                     have HW := HV
                     clear HV)
        clear hHeld
        refine hK.out _ _ ((by (repeat (first | (with_reducible exact HW.out) | (with_reducible exact Below.refl _ _) | (with_reducible apply bl_drewN) | (with_reducible apply bl_alloc) | (with_reducible apply Below.drew))); done)) (fun hHeld => ?_)
        clear hK K
        refine wpE_ready (rs := [23]) (by kernel_rfl) (by kernel_rfl) ?_
        refine AllReadyE.cons rfl (fun K hK => ?_) AllReadyE.nil
        rw [if_pos (show _ = true by kernel_rfl)]
        go_simp
        clear hHeld
        refine hK.out _ _ ((by (repeat (first | (with_reducible exact HW.out) | (with_reducible exact Below.refl _ _) | (with_reducible apply bl_drewN) | (with_reducible apply bl_alloc) | (with_reducible apply Below.drew))); done)) (fun hHeld => ?_)
        clear hK K
        refine wpE_ready (rs := [24]) (by kernel_rfl) (by kernel_rfl) ?_
        refine AllReadyE.cons rfl (fun K hK => ?_) AllReadyE.nil
        rw [if_pos (show _ = true by kernel_rfl)]
        go_simp
        go_wp2_with (go_at_call 27
                     with_reducible refine (stxEx (K78.out.step (bl_alloc (Below.refl _ _) _)) (tSl (by exact heap_alloc_new w78 _))).mono ?_
                     rintro e w80 ⟨rfl, hb⟩
                     have HV := Lib.hid (bl_trans (show Below we.heap.size we _ from (by (repeat (first | (with_reducible exact HW.out) | (with_reducible exact Below.refl _ _) | (with_reducible apply bl_drewN) | (with_reducible apply bl_alloc) | (with_reducible apply Below.drew))); done)) hb)
                     clear hb HW
                     have HW := HV
                     clear HV)
        clear hHeld
        refine hK.out _ _ ((by (repeat (first | (with_reducible exact HW.out) | (with_reducible exact Below.refl _ _) | (with_reducible apply bl_drewN) | (with_reducible apply bl_alloc) | (with_reducible apply Below.drew))); done)) (fun hHeld => ?_)
        clear hK K
        refine wpE_take (i := 25) (v := ?_) rfl (by kernel_rfl) (fun _ _ _ h => h) (Or.inl ⟨by kernel_rfl, ?_⟩) (by assumption) ?_
        rotate_left
        focus (intro w9 hS9; (try dsimp only at hS9); go_simp; (try with_reducible rfl))
        (try simp only [List.getElem_toArray, List.getElem_cons_succ, List.getElem_cons_zero])
        (try simp only [Act.put])
        (try simp only [List.setIfInBounds_toArray])
        (repeat (first | simp only [List.set_cons_succ] | simp only [List.set_cons_zero]))
        refine wpE_take (i := 26) (v := ?_) rfl (by kernel_rfl) (fun _ _ _ h => h) (Or.inl ⟨by kernel_rfl, ?_⟩) (by assumption) ?_
        rotate_left
        focus (intro w9 hS9; (try dsimp only at hS9); go_simp; (try with_reducible rfl))
        (try simp only [List.getElem_toArray, List.getElem_cons_succ, List.getElem_cons_zero])
        (try simp only [Act.put])
        (try simp only [List.setIfInBounds_toArray])
        (repeat (first | simp only [List.set_cons_succ] | simp only [List.set_cons_zero]))
        refine wpE_take (i := 27) (v := ?_) rfl (by kernel_rfl) (fun _ _ _ h => h) (Or.inl ⟨by kernel_rfl, ?_⟩) (by assumption) ?_
        rotate_left
        focus (intro w9 hS9; (try dsimp only at hS9); go_simp; (try with_reducible rfl))
        (try simp only [List.getElem_toArray, List.getElem_cons_succ, List.getElem_cons_zero])
        (try simp only [Act.put])
        (try simp only [List.setIfInBounds_toArray])
        (repeat (first | simp only [List.set_cons_succ] | simp only [List.set_cons_zero]))
        refine wpE_take (i := 28) (v := ?_) rfl (by kernel_rfl) (fun _ _ _ h => h) (Or.inl ⟨by kernel_rfl, ?_⟩) (by assumption) ?_
        rotate_left
        focus (intro w9 hS9; obtain ⟨z0, z1, z2, z3, z4, z5, z6, z7⟩ := CA.out w9 hS9; clear hS9; go_simp; (try with_reducible rfl))
        (try simp only [List.getElem_toArray, List.getElem_cons_succ, List.getElem_cons_zero])
        (try simp only [Act.put])
        (try simp only [List.setIfInBounds_toArray])
        (repeat (first | simp only [List.set_cons_succ] | simp only [List.set_cons_zero]))
        refine wpE_ready (rs := [29]) (by kernel_rfl) (by kernel_rfl) ?_
        refine AllReadyE.cons rfl (fun K hK => ?_) AllReadyE.nil
        rw [if_pos (show _ = true by kernel_rfl)]
        go_simp
        clear hHeld
        refine hK.out _ _ ((by (repeat (first | (with_reducible exact HW.out) | (with_reducible exact Below.refl _ _) | (with_reducible apply bl_drewN) | (with_reducible apply bl_alloc) | (with_reducible apply Below.drew))); done)) (fun hHeld => ?_)
        clear hK K
        refine wpE_ready (rs := [30]) (by kernel_rfl) (by kernel_rfl) ?_
        refine AllReadyE.cons rfl (fun K hK => ?_) AllReadyE.nil
        rw [if_pos (show _ = true by kernel_rfl)]
        go_simp
        go_wp2_with (go_at_call 20
                     with_reducible refine (samEx (S1e.out.step (by (repeat (first | (with_reducible exact HW.out) | (with_reducible exact Below.refl _ _) | (with_reducible apply bl_drewN) | (with_reducible apply bl_alloc) | (with_reducible apply Below.drew))); done)) (aSl (HXE.out.step (by (repeat (first | (with_reducible exact HW.out) | (with_reducible exact Below.refl _ _) | (with_reducible apply bl_drewN) | (with_reducible apply bl_alloc) | (with_reducible apply Below.drew))); done)) (by exact heap_alloc_new w80 _))).mono ?_
                     rintro e w86 ⟨rfl, hb⟩
                     have HV := Lib.hid (bl_trans (show Below we.heap.size we _ from (by (repeat (first | (with_reducible exact HW.out) | (with_reducible exact Below.refl _ _) | (with_reducible apply bl_drewN) | (with_reducible apply bl_alloc) | (with_reducible apply Below.drew))); done)) hb)
                     clear hb HW
                     have HW := HV
                     clear HV)
        clear hHeld
        refine hK.out _ _ ((by (repeat (first | (with_reducible exact HW.out) | (with_reducible exact Below.refl _ _) | (with_reducible apply bl_drewN) | (with_reducible apply bl_alloc) | (with_reducible apply Below.drew))); done)) (fun hHeld => ?_)
        clear hK K
        refine wpE_take (i := 31) (v := ?_) rfl (by kernel_rfl) (fun _ _ _ h => h) (Or.inl ⟨by kernel_rfl, ?_⟩) (by assumption) ?_
        rotate_left
        focus (intro w9 hS9; (try dsimp only at hS9); go_simp; (try with_reducible rfl))
        (try simp only [List.getElem_toArray, List.getElem_cons_succ, List.getElem_cons_zero])
        (try simp only [Act.put])
        (try simp only [List.setIfInBounds_toArray])
        (repeat (first | simp only [List.set_cons_succ] | simp only [List.set_cons_zero]))
        refine wpE_take (i := 32) (v := ?_) rfl (by kernel_rfl) (fun _ _ _ h => h) (Or.inl ⟨by kernel_rfl, ?_⟩) (by assumption) ?_
        rotate_left
        focus (intro w9 hS9; (try dsimp only at hS9); go_simp; (try with_reducible rfl))
        (try simp only [List.getElem_toArray, List.getElem_cons_succ, List.getElem_cons_zero])
        (try simp only [Act.put])
        (try simp only [List.setIfInBounds_toArray])
        (repeat (first | simp only [List.set_cons_succ] | simp only [List.set_cons_zero]))
        refine wpE_take (i := 33) (v := ?_) rfl (by kernel_rfl) (fun _ _ _ h => h) (Or.inl ⟨by kernel_rfl, ?_⟩) (by assumption) ?_
        rotate_left
        focus (intro w9 hS9; (try dsimp only at hS9); go_simp; (try with_reducible rfl))
        (try simp only [List.getElem_toArray, List.getElem_cons_succ, List.getElem_cons_zero])
        (try simp only [Act.put])
        (try simp only [List.setIfInBounds_toArray])
        (repeat (first | simp only [List.set_cons_succ] | simp only [List.set_cons_zero]))
        refine wpE_take (i := 34) (v := ?_) rfl (by kernel_rfl) (fun _ _ _ h => h) (Or.inl ⟨by kernel_rfl, ?_⟩) (by assumption) ?_
        rotate_left
        focus (intro w9 hS9; (try dsimp only at hS9); go_simp; (try with_reducible rfl))
        (try simp only [List.getElem_toArray, List.getElem_cons_succ, List.getElem_cons_zero])
        (try simp only [Act.put])
        (try simp only [List.setIfInBounds_toArray])
        (repeat (first | simp only [List.set_cons_succ] | simp only [List.set_cons_zero]))
        refine wpE_take (i := 35) (v := ?_) rfl (by kernel_rfl) (fun _ _ _ h => h) (Or.inl ⟨by kernel_rfl, ?_⟩) (by assumption) ?_
        rotate_left
        focus (intro w9 hS9; (try dsimp only at hS9); go_simp; (try with_reducible rfl))
        (try simp only [List.getElem_toArray, List.getElem_cons_succ, List.getElem_cons_zero])
        (try simp only [Act.put])
        (try simp only [List.setIfInBounds_toArray])
        (repeat (first | simp only [List.set_cons_succ] | simp only [List.set_cons_zero]))
        refine wpE_take (i := 36) (v := ?_) rfl (by kernel_rfl) (fun _ _ _ h => h) (Or.inl ⟨by kernel_rfl, ?_⟩) (by assumption) ?_
        rotate_left
        focus (intro w9 hS9; (try dsimp only at hS9); go_simp; (try with_reducible rfl))
        (try simp only [List.getElem_toArray, List.getElem_cons_succ, List.getElem_cons_zero])
        (try simp only [Act.put])
        (try simp only [List.setIfInBounds_toArray])
        (repeat (first | simp only [List.set_cons_succ] | simp only [List.set_cons_zero]))
        clear hHeld
        refine wpE_out (by kernel_rfl) ?_
        refine wpAny_ready (rs := [37]) (by kernel_rfl) (by simp) ?_
        refine AllReady.cons rfl (fun K hK => ?_) AllReady.nil
        rw [if_pos (show _ = true by kernel_rfl)]
        go_simp
        refine hK _ _ ?_
        clear hK K
        refine wpAny_done (by kernel_rfl) ?_ _
        go_wp2
        go_ret
        exact ⟨rfl, bl_trans HBe.out HW.out⟩
      · rw [if_pos (show _ = true by kernel_rfl)]
        go_simp
        clear hHeld
        refine hK.out _ _ ((by (repeat (first | (with_reducible exact HW.out) | (with_reducible exact Below.refl _ _) | (with_reducible apply bl_drewN) | (with_reducible apply bl_alloc) | (with_reducible apply Below.drew))); done)) (fun hHeld => ?_)
        clear hK K
        refine wpE_ready (rs := [22]) (by kernel_rfl) (by kernel_rfl) ?_
        refine AllReadyE.cons rfl (fun K hK => ?_) AllReadyE.nil
        rw [if_pos (show _ = true by kernel_rfl)]
        go_simp
        go_wp2_with (go_at_call 28
                     with_reducible refine (vehEx (HXE.out.step (by (repeat (first | (with_reducible exact HW.out) | (with_reducible exact Below.refl _ _) | (with_reducible apply bl_drewN) | (with_reducible apply bl_alloc) | (with_reducible apply Below.drew))); done))).mono ?_
                     rintro e w78 ⟨⟨a78, c78, rfl, sx⟩, hb⟩
                     have K78 := Lib.hid sx
                     have K79 := Lib.hid ((tSl (by exact heap_alloc_new w72 _)).step hb)
                     clear sx
                     have HV := Lib.hid (bl_trans (show Below we.heap.size we _ from (by (repeat (first | (with_reducible exact HW.out) | (with_reducible exact Below.refl _ _) | (with_reducible apply bl_drewN) | (with_reducible apply bl_alloc) | (with_reducible apply Below.drew))); done)) hb)
                     clear hb HW
                     have HW := HV
                     clear HV)
        clear hHeld
        refine hK.out _ _ ((by (repeat (first | (with_reducible exact HW.out) | (with_reducible exact Below.refl _ _) | (with_reducible apply bl_drewN) | (with_reducible apply bl_alloc) | (with_reducible apply Below.drew))); done)) (fun hHeld => ?_)
        clear hK K
        refine wpE_ready (rs := [24]) (by kernel_rfl) (by kernel_rfl) ?_
        refine AllReadyE.cons rfl (fun K hK => ?_) AllReadyE.nil
        rw [if_pos (show _ = true by kernel_rfl)]
        go_simp
        go_wp2_with (go_at_call 27
                     with_reducible refine (stxEx K78.out K79.out).mono ?_
                     rintro e w80 ⟨rfl, hb⟩
                     have HV := Lib.hid (bl_trans (show Below we.heap.size we _ from (by (repeat (first | (with_reducible exact HW.out) | (with_reducible exact Below.refl _ _) | (with_reducible apply bl_drewN) | (with_reducible apply bl_alloc) | (with_reducible apply Below.drew))); done)) hb)
                     clear hb HW
                     have HW := HV
                     clear HV)
        clear hHeld
        refine hK.out _ _ ((by (repeat (first | (with_reducible exact HW.out) | (with_reducible exact Below.refl _ _) | (with_reducible apply bl_drewN) | (with_reducible apply bl_alloc) | (with_reducible apply Below.drew))); done)) (fun hHeld => ?_)
        clear hK K
        refine wpE_take (i := 25) (v := ?_) rfl (by kernel_rfl) (fun _ _ _ h => h) (Or.inl ⟨by kernel_rfl, ?_⟩) (by assumption) ?_
        rotate_left
        focus (intro w9 hS9; (try dsimp only at hS9); go_simp; (try with_reducible rfl))
        (try simp only [List.getElem_toArray, List.getElem_cons_succ, List.getElem_cons_zero])
        (try simp only [Act.put])
        (try simp only [List.setIfInBounds_toArray])
        (repeat (first | simp only [List.set_cons_succ] | simp only [List.set_cons_zero]))
        refine wpE_take (i := 26) (v := ?_) rfl (by kernel_rfl) (fun _ _ _ h => h) (Or.inl ⟨by kernel_rfl, ?_⟩) (by assumption) ?_
        rotate_left
        focus (intro w9 hS9; (try dsimp only at hS9); go_simp; (try with_reducible rfl))
        (try simp only [List.getElem_toArray, List.getElem_cons_succ, List.getElem_cons_zero])
        (try simp only [Act.put])
        (try simp only [List.setIfInBounds_toArray])
        (repeat (first | simp only [List.set_cons_succ] | simp only [List.set_cons_zero]))
        refine wpE_take (i := 27) (v := ?_) rfl (by kernel_rfl) (fun _ _ _ h => h) (Or.inl ⟨by kernel_rfl, ?_⟩) (by assumption) ?_
        rotate_left
        focus (intro w9 hS9; (try dsimp only at hS9); go_simp; (try with_reducible rfl))
        (try simp only [List.getElem_toArray, List.getElem_cons_succ, List.getElem_cons_zero])
        (try simp only [Act.put])
        (try simp only [List.setIfInBounds_toArray])
        (repeat (first | simp only [List.set_cons_succ] | simp only [List.set_cons_zero]))
        refine wpE_take (i := 28) (v := ?_) rfl (by kernel_rfl) (fun _ _ _ h => h) (Or.inl ⟨by kernel_rfl, ?_⟩) (by assumption) ?_
        rotate_left
        focus (intro w9 hS9; obtain ⟨z0, z1, z2, z3, z4, z5, z6, z7⟩ := CA.out w9 hS9; clear hS9; go_simp; (try with_reducible rfl))
        (try simp only [List.getElem_toArray, List.getElem_cons_succ, List.getElem_cons_zero])
        (try simp only [Act.put])
        (try simp only [List.setIfInBounds_toArray])
        (repeat (first | simp only [List.set_cons_succ] | simp only [List.set_cons_zero]))
        refine wpE_ready (rs := [29]) (by kernel_rfl) (by kernel_rfl) ?_
        refine AllReadyE.cons rfl (fun K hK => ?_) AllReadyE.nil
        rw [if_pos (show _ = true by kernel_rfl)]
        go_simp
        clear hHeld
        refine hK.out _ _ ((by (repeat (first | (with_reducible exact HW.out) | (with_reducible exact Below.refl _ _) | (with_reducible apply bl_drewN) | (with_reducible apply bl_alloc) | (with_reducible apply Below.drew))); done)) (fun hHeld => ?_)
        clear hK K
        refine wpE_ready (rs := [30]) (by kernel_rfl) (by kernel_rfl) ?_
        refine AllReadyE.cons rfl (fun K hK => ?_) AllReadyE.nil
        rw [if_pos (show _ = true by kernel_rfl)]
        go_simp
        go_wp2_with (go_at_call 20
                     with_reducible refine (samEx (S1e.out.step (by (repeat (first | (with_reducible exact HW.out) | (with_reducible exact Below.refl _ _) | (with_reducible apply bl_drewN) | (with_reducible apply bl_alloc) | (with_reducible apply Below.drew))); done)) (aSl (HXE.out.step (by (repeat (first | (with_reducible exact HW.out) | (with_reducible exact Below.refl _ _) | (with_reducible apply bl_drewN) | (with_reducible apply bl_alloc) | (with_reducible apply Below.drew))); done)) (by exact heap_alloc_new w80 _))).mono ?_
                     rintro e w86 ⟨rfl, hb⟩
                     have HV := Lib.hid (bl_trans (show Below we.heap.size we _ from (by (repeat (first | (with_reducible exact HW.out) | (with_reducible exact Below.refl _ _) | (with_reducible apply bl_drewN) | (with_reducible apply bl_alloc) | (with_reducible apply Below.drew))); done)) hb)
                     clear hb HW
                     have HW := HV
                     clear HV)
        clear hHeld
        refine hK.out _ _ ((by (repeat (first | (with_reducible exact HW.out) | (with_reducible exact Below.refl _ _) | (with_reducible apply bl_drewN) | (with_reducible apply bl_alloc) | (with_reducible apply Below.drew))); done)) (fun hHeld => ?_)
        clear hK K
        refine wpE_take (i := 31) (v := ?_) rfl (by kernel_rfl) (fun _ _ _ h => h) (Or.inl ⟨by kernel_rfl, ?_⟩) (by assumption) ?_
        rotate_left
        focus (intro w9 hS9; (try dsimp only at hS9); go_simp; (try with_reducible rfl))
        (try simp only [List.getElem_toArray, List.getElem_cons_succ, List.getElem_cons_zero])
        (try simp only [Act.put])
        (try simp only [List.setIfInBounds_toArray])
        (repeat (first | simp only [List.set_cons_succ] | simp only [List.set_cons_zero]))
        refine wpE_take (i := 32) (v := ?_) rfl (by kernel_rfl) (fun _ _ _ h => h) (Or.inl ⟨by kernel_rfl, ?_⟩) (by assumption) ?_
        rotate_left
        focus (intro w9 hS9; (try dsimp only at hS9); go_simp; (try with_reducible rfl))
        (try simp only [List.getElem_toArray, List.getElem_cons_succ, List.getElem_cons_zero])
        (try simp only [Act.put])
        (try simp only [List.setIfInBounds_toArray])
        (repeat (first | simp only [List.set_cons_succ] | simp only [List.set_cons_zero]))
        refine wpE_take (i := 33) (v := ?_) rfl (by kernel_rfl) (fun _ _ _ h => h) (Or.inl ⟨by kernel_rfl, ?_⟩) (by assumption) ?_
        rotate_left
        focus (intro w9 hS9; (try dsimp only at hS9); go_simp; (try with_reducible rfl))
        (try simp only [List.getElem_toArray, List.getElem_cons_succ, List.getElem_cons_zero])
        (try simp only [Act.put])
        (try simp only [List.setIfInBounds_toArray])
        (repeat (first | simp only [List.set_cons_succ] | simp only [List.set_cons_zero]))
        refine wpE_take (i := 34) (v := ?_) rfl (by kernel_rfl) (fun _ _ _ h => h) (Or.inl ⟨by kernel_rfl, ?_⟩) (by assumption) ?_
        rotate_left
        focus (intro w9 hS9; (try dsimp only at hS9); go_simp; (try with_reducible rfl))
        (try simp only [List.getElem_toArray, List.getElem_cons_succ, List.getElem_cons_zero])
        (try simp only [Act.put])
        (try simp only [List.setIfInBounds_toArray])
        (repeat (first | simp only [List.set_cons_succ] | simp only [List.set_cons_zero]))
        refine wpE_take (i := 35) (v := ?_) rfl (by kernel_rfl) (fun _ _ _ h => h) (Or.inl ⟨by kernel_rfl, ?_⟩) (by assumption) ?_
        rotate_left
        focus (intro w9 hS9; (try dsimp only at hS9); go_simp; (try with_reducible rfl))
        (try simp only [List.getElem_toArray, List.getElem_cons_succ, List.getElem_cons_zero])
        (try simp only [Act.put])
        (try simp only [List.setIfInBounds_toArray])
        (repeat (first | simp only [List.set_cons_succ] | simp only [List.set_cons_zero]))
        refine wpE_take (i := 36) (v := ?_) rfl (by kernel_rfl) (fun _ _ _ h => h) (Or.inl ⟨by kernel_rfl, ?_⟩) (by assumption) ?_
        rotate_left
        focus (intro w9 hS9; (try dsimp only at hS9); go_simp; (try with_reducible rfl))
        (try simp only [List.getElem_toArray, List.getElem_cons_succ, List.getElem_cons_zero])
        (try simp only [Act.put])
        (try simp only [List.setIfInBounds_toArray])
        (repeat (first | simp only [List.set_cons_succ] | simp only [List.set_cons_zero]))
        clear hHeld
        refine wpE_out (by kernel_rfl) ?_
        refine wpAny_ready (rs := [37]) (by kernel_rfl) (by simp) ?_
        refine AllReady.cons rfl (fun K hK => ?_) AllReady.nil
        rw [if_pos (show _ = true by kernel_rfl)]
        go_simp
        refine hK _ _ ?_
        clear hK K
        refine wpAny_done (by kernel_rfl) ?_ _
        go_wp2
        go_ret
        exact ⟨rfl, bl_trans HBe.out HW.out⟩
    · rw [if_pos (show _ = true by kernel_rfl)]
      go_simp
      clear hHeld
      refine hK.out _ _ ((by (repeat (first | (with_reducible exact HW.out) | (with_reducible exact Below.refl _ _) | (with_reducible apply bl_drewN) | (with_reducible apply bl_alloc) | (with_reducible apply Below.drew))); done)) (fun hHeld => ?_)
      clear hK K
      refine wpE_ready (rs := [8]) (by kernel_rfl) (by kernel_rfl) ?_
      refine AllReadyE.cons rfl (fun K hK => ?_) AllReadyE.nil
      rw [if_pos (show _ = true by kernel_rfl)]
      go_simp
      go_wp2_with (go_at_call 25
                   with_reducible refine (ofEx1 (HXE.out.step (by (repeat (first | (with_reducible exact HW.out) | (with_reducible exact Below.refl _ _) | (with_reducible apply bl_drewN) | (with_reducible apply bl_alloc) | (with_reducible apply Below.drew))); done))).mono ?_
                   rintro e w64 ⟨⟨a64, c64, rfl, sx⟩, hb⟩
                   have K64 := Lib.hid sx
                   have K67 := Lib.hid ((baSl (HXE.out.step (by (repeat (first | (with_reducible exact HW.out) | (with_reducible exact Below.refl _ _) | (with_reducible apply bl_drewN) | (with_reducible apply bl_alloc) | (with_reducible apply Below.drew))); done)) (by exact heap_alloc_new w61 _)).step hb)
                   clear sx
                   have HV := Lib.hid (bl_trans (show Below we.heap.size we _ from (by (repeat (first | (with_reducible exact HW.out) | (with_reducible exact Below.refl _ _) | (with_reducible apply bl_drewN) | (with_reducible apply bl_alloc) | (with_reducible apply Below.drew))); done)) hb)
                   clear hb HW
                   have HW := HV
                   clear HV)
      clear hHeld
      refine hK.out _ _ ((by (repeat (first | (with_reducible exact HW.out) | (with_reducible exact Below.refl _ _) | (with_reducible apply bl_drewN) | (with_reducible apply bl_alloc) | (with_reducible apply Below.drew))); done)) (fun hHeld => ?_)
      clear hK K
      refine wpE_ready (rs := [12]) (by kernel_rfl) (by kernel_rfl) ?_
      refine AllReadyE.cons rfl (fun K hK => ?_) AllReadyE.nil
      rw [if_pos (show _ = true by kernel_rfl)]
      go_simp
      go_wp2_with (go_at_call 20
                   with_reducible refine (samEx K64.out K67.out).mono ?_
                   rintro e w68 ⟨rfl, hb⟩
                   have HV := Lib.hid (bl_trans (show Below we.heap.size we _ from (by (repeat (first | (with_reducible exact HW.out) | (with_reducible exact Below.refl _ _) | (with_reducible apply bl_drewN) | (with_reducible apply bl_alloc) | (with_reducible apply Below.drew))); done)) hb)
                   clear hb HW
                   have HW := HV
                   clear HV)
      clear hHeld
      refine hK.out _ _ ((by (repeat (first | (with_reducible exact HW.out) | (with_reducible exact Below.refl _ _) | (with_reducible apply bl_drewN) | (with_reducible apply bl_alloc) | (with_reducible apply Below.drew))); done)) (fun hHeld => ?_)
      clear hK K
      refine wpE_take (i := 13) (v := ?_) rfl (by kernel_rfl) (fun _ _ _ h => h) (Or.inl ⟨by kernel_rfl, ?_⟩) (by assumption) ?_
      rotate_left
      focus (intro w9 hS9; (try dsimp only at hS9); go_simp; (try with_reducible rfl))
      (try simp only [List.getElem_toArray, List.getElem_cons_succ, List.getElem_cons_zero])
      (try simp only [Act.put])
      (try simp only [List.setIfInBounds_toArray])
      (repeat (first | simp only [List.set_cons_succ] | simp only [List.set_cons_zero]))
      refine wpE_take (i := 14) (v := ?_) rfl (by kernel_rfl) (fun _ _ _ h => h) (Or.inl ⟨by kernel_rfl, ?_⟩) (by assumption) ?_
      rotate_left
      focus (intro w9 hS9; (try dsimp only at hS9); go_simp; (try with_reducible rfl))
      (try simp only [List.getElem_toArray, List.getElem_cons_succ, List.getElem_cons_zero])
      (try simp only [Act.put])
      (try simp only [List.setIfInBounds_toArray])
      (repeat (first | simp only [List.set_cons_succ] | simp only [List.set_cons_zero]))
      refine wpE_take (i := 15) (v := ?_) rfl (by kernel_rfl) (fun _ _ _ h => h) (Or.inl ⟨by kernel_rfl, ?_⟩) (by assumption) ?_
      rotate_left
      focus (intro w9 hS9; (try dsimp only at hS9); go_simp; (try with_reducible rfl))
      (try simp only [List.getElem_toArray, List.getElem_cons_succ, List.getElem_cons_zero])
      (try simp only [Act.put])
      (try simp only [List.setIfInBounds_toArray])
      (repeat (first | simp only [List.set_cons_succ] | simp only [List.set_cons_zero]))
      refine wpE_ready (rs := [16]) (by kernel_rfl) (by kernel_rfl) ?_
      refine AllReadyE.cons rfl (fun K hK => ?_) AllReadyE.nil
      rw [if_pos (show _ = true by kernel_rfl)]
      go_simp
      go_wp2_with (go_at_call 25
                   with_reducible refine (ofEx2 (HXE.out.step (by (repeat (first | (with_reducible exact HW.out) | (with_reducible exact Below.refl _ _) | (with_reducible apply bl_drewN) | (with_reducible apply bl_alloc) | (with_reducible apply Below.drew))); done))).mono ?_
                   rintro e w72 ⟨⟨a72, c72, rfl⟩, hb⟩
                   have HV := Lib.hid (bl_trans (show Below we.heap.size we _ from (by (repeat (first | (with_reducible exact HW.out) | (with_reducible exact Below.refl _ _) | (with_reducible apply bl_drewN) | (with_reducible apply bl_alloc) | (with_reducible apply Below.drew))); done)) hb)
                   clear hb HW
                   have HW := HV
                   clear HV)
      clear hHeld
      refine hK.out _ _ ((by (repeat (first | (with_reducible exact HW.out) | (with_reducible exact Below.refl _ _) | (with_reducible apply bl_drewN) | (with_reducible apply bl_alloc) | (with_reducible apply Below.drew))); done)) (fun hHeld => ?_)
      clear hK K
      refine wpE_take (i := 17) (v := ?_) rfl (by kernel_rfl) (fun _ _ _ h => h) (Or.inl ⟨by kernel_rfl, ?_⟩) (by assumption) ?_
      rotate_left
      focus (intro w9 hS9; (try dsimp only at hS9); go_simp; (try with_reducible rfl))
      (try simp only [List.getElem_toArray, List.getElem_cons_succ, List.getElem_cons_zero])
      (try simp only [Act.put])
      (try simp only [List.setIfInBounds_toArray])
      (repeat (first | simp only [List.set_cons_succ] | simp only [List.set_cons_zero]))
      refine wpE_take (i := 18) (v := ?_) rfl (by kernel_rfl) (fun _ _ _ h => h) (Or.inl ⟨by kernel_rfl, ?_⟩) (by assumption) ?_
      rotate_left
      focus (intro w9 hS9; (try dsimp only at hS9); go_simp; (try with_reducible rfl))
      (try simp only [List.getElem_toArray, List.getElem_cons_succ, List.getElem_cons_zero])
      (try simp only [Act.put])
      (try simp only [List.setIfInBounds_toArray])
      (repeat (first | simp only [List.set_cons_succ] | simp only [List.set_cons_zero]))
      refine wpE_take (i := 19) (v := ?_) rfl (by kernel_rfl) (fun _ _ _ h => h) (Or.inl ⟨by kernel_rfl, ?_⟩) (by assumption) ?_
      rotate_left
      focus (intro w9 hS9; (try dsimp only at hS9); go_simp; (try with_reducible rfl))
      (try simp only [List.getElem_toArray, List.getElem_cons_succ, List.getElem_cons_zero])
      (try simp only [Act.put])
      (try simp only [List.setIfInBounds_toArray])
      (repeat (first | simp only [List.set_cons_succ] | simp only [List.set_cons_zero]))
      refine wpE_take (i := 20) (v := ?_) rfl (by kernel_rfl) (fun _ _ _ h => h) (Or.inl ⟨by kernel_rfl, ?_⟩) (by assumption) ?_
      rotate_left
      focus (intro w9 hS9; (try dsimp only at hS9); go_simp; (try with_reducible rfl))
      (try simp only [List.getElem_toArray, List.getElem_cons_succ, List.getElem_cons_zero])
      (try simp only [Act.put])
      (try simp only [List.setIfInBounds_toArray])
      (repeat (first | simp only [List.set_cons_succ] | simp only [List.set_cons_zero]))
      refine wpE_take (i := 21) (v := ?_) rfl (by kernel_rfl) (fun _ _ _ h => h) (Or.inl ⟨by kernel_rfl, ?_⟩) (by assumption) ?_
      rotate_left
      focus (intro w9 hS9; (try dsimp only at hS9); go_simp; (try with_reducible rfl))
      (try simp only [List.getElem_toArray, List.getElem_cons_succ, List.getElem_cons_zero])
      (try simp only [Act.put])
      (try simp only [List.setIfInBounds_toArray])
      (repeat (first | simp only [List.set_cons_succ] | simp only [List.set_cons_zero]))
      refine wpE_ready (rs := [22, 23]) (by kernel_rfl) (by kernel_rfl) ?_
      refine AllReadyE.cons rfl (fun K hK => ?_) (AllReadyE.cons rfl (fun K hK => ?_) AllReadyE.nil)
      · rw [if_pos (show _ = true by kernel_rfl)]
        go_simp
        go_wp2_with (go_at_call 28
                     with_reducible refine (vehEx (HXE.out.step (by (repeat (first | (with_reducible exact HW.out) | (with_reducible exact Below.refl _ _) | (with_reducible apply bl_drewN) | (with_reducible apply bl_alloc) | (with_reducible apply Below.drew))); done))).mono ?_
                     rintro e w78 ⟨⟨a78, c78, rfl, sx⟩, hb⟩
                     have K78 := Lib.hid sx
                     skip
                     clear sx
                     have HV := Lib.hid (bl_trans (show Below we.heap.size we _ from (by (repeat (first | (with_reducible exact HW.out) | (with_reducible exact Below.refl _ _) | (with_reducible apply bl_drewN) | (with_reducible apply bl_alloc) | (with_reducible apply Below.drew))); done)) hb)
                     clear hb HW
                     have HW := HV
                     clear HV)
        clear hHeld
        refine hK.out _ _ ((by (repeat (first | (with_reducible exact HW.out) | (with_reducible exact Below.refl _ _) | (with_reducible apply bl_drewN) | (with_reducible apply bl_alloc) | (with_reducible apply Below.drew))); done)) (fun hHeld => ?_)
        clear hK K
        refine wpE_ready (rs := [23]) (by kernel_rfl) (by kernel_rfl) ?_
        refine AllReadyE.cons rfl (fun K hK => ?_) AllReadyE.nil
        rw [if_pos (show _ = true by kernel_rfl)]
        go_simp
        clear hHeld
        refine hK.out _ _ ((by (repeat (first | (with_reducible exact HW.out) | (with_reducible exact Below.refl _ _) | (with_reducible apply bl_drewN) | (with_reducible apply bl_alloc) | (with_reducible apply Below.drew))); done)) (fun hHeld => ?_)
        clear hK K
        refine wpE_ready (rs := [24]) (by kernel_rfl) (by kernel_rfl) ?_
        refine AllReadyE.cons rfl (fun K hK => ?_) AllReadyE.nil
        rw [if_pos (show _ = true by kernel_rfl)]
        go_simp
        go_wp2_with (go_at_call 27
                     with_reducible refine (stxEx (K78.out.step (bl_alloc (Below.refl _ _) _)) (tSl (by exact heap_alloc_new w78 _))).mono ?_
                     rintro e w80 ⟨rfl, hb⟩
                     have HV := Lib.hid (bl_trans (show Below we.heap.size we _ from (by (repeat (first | (with_reducible exact HW.out) | (with_reducible exact Below.refl _ _) | (with_reducible apply bl_drewN) | (with_reducible apply bl_alloc) | (with_reducible apply Below.drew))); done)) hb)
                     clear hb HW
                     have HW := HV
                     clear HV)
        clear hHeld
        refine hK.out _ _ ((by (repeat (first | (with_reducible exact HW.out) | (with_reducible exact Below.refl _ _) | (with_reducible apply bl_drewN) | (with_reducible apply bl_alloc) | (with_reducible apply Below.drew))); done)) (fun hHeld => ?_)
        clear hK K
        refine wpE_take (i := 25) (v := ?_) rfl (by kernel_rfl) (fun _ _ _ h => h) (Or.inl ⟨by kernel_rfl, ?_⟩) (by assumption) ?_
        rotate_left
        focus (intro w9 hS9; (try dsimp only at hS9); go_simp; (try with_reducible rfl))
        (try simp only [List.getElem_toArray, List.getElem_cons_succ, List.getElem_cons_zero])
        (try simp only [Act.put])
        (try simp only [List.setIfInBounds_toArray])
        (repeat (first | simp only [List.set_cons_succ] | simp only [List.set_cons_zero]))
        refine wpE_take (i := 26) (v := ?_) rfl (by kernel_rfl) (fun _ _ _ h => h) (Or.inl ⟨by kernel_rfl, ?_⟩) (by assumption) ?_
        rotate_left
        focus (intro w9 hS9; (try dsimp only at hS9); go_simp; (try with_reducible rfl))
        (try simp only [List.getElem_toArray, List.getElem_cons_succ, List.getElem_cons_zero])
        (try simp only [Act.put])
        (try simp only [List.setIfInBounds_toArray])
        (repeat (first | simp only [List.set_cons_succ] | simp only [List.set_cons_zero]))
        refine wpE_take (i := 27) (v := ?_) rfl (by kernel_rfl) (fun _ _ _ h => h) (Or.inl ⟨by kernel_rfl, ?_⟩) (by assumption) ?_
        rotate_left
        focus (intro w9 hS9; (try dsimp only at hS9); go_simp; (try with_reducible rfl))
        (try simp only [List.getElem_toArray, List.getElem_cons_succ, List.getElem_cons_zero])
        (try simp only [Act.put])
        (try simp only [List.setIfInBounds_toArray])
        (repeat (first | simp only [List.set_cons_succ] | simp only [List.set_cons_zero]))
        refine wpE_take (i := 28) (v := ?_) rfl (by kernel_rfl) (fun _ _ _ h => h) (Or.inl ⟨by kernel_rfl, ?_⟩) (by assumption) ?_
        rotate_left
        focus (intro w9 hS9; obtain ⟨z0, z1, z2, z3, z4, z5, z6, z7⟩ := CA.out w9 hS9; clear hS9; go_simp; (try with_reducible rfl))
        (try simp only [List.getElem_toArray, List.getElem_cons_succ, List.getElem_cons_zero])
        (try simp only [Act.put])
        (try simp only [List.setIfInBounds_toArray])
        (repeat (first | simp only [List.set_cons_succ] | simp only [List.set_cons_zero]))
        refine wpE_ready (rs := [29]) (by kernel_rfl) (by kernel_rfl) ?_
        refine AllReadyE.cons rfl (fun K hK => ?_) AllReadyE.nil
        rw [if_pos (show _ = true by kernel_rfl)]
        go_simp
        clear hHeld
        refine hK.out _ _ ((by (repeat (first | (with_reducible exact HW.out) | (with_reducible exact Below.refl _ _) | (with_reducible apply bl_drewN) | (with_reducible apply bl_alloc) | (with_reducible apply Below.drew))); done)) (fun hHeld => ?_)
        clear hK K
        refine wpE_ready (rs := [30]) (by kernel_rfl) (by kernel_rfl) ?_
        refine AllReadyE.cons rfl (fun K hK => ?_) AllReadyE.nil
        rw [if_pos (show _ = true by kernel_rfl)]
        go_simp
        go_wp2_with (go_at_call 20
                     with_reducible refine (samEx (S1e.out.step (by (repeat (first | (with_reducible exact HW.out) | (with_reducible exact Below.refl _ _) | (with_reducible apply bl_drewN) | (with_reducible apply bl_alloc) | (with_reducible apply Below.drew))); done)) (aSl (HXE.out.step (by (repeat (first | (with_reducible exact HW.out) | (with_reducible exact Below.refl _ _) | (with_reducible apply bl_drewN) | (with_reducible apply bl_alloc) | (with_reducible apply Below.drew))); done)) (by exact heap_alloc_new w80 _))).mono ?_
                     rintro e w86 ⟨rfl, hb⟩
                     have HV := Lib.hid (bl_trans (show Below we.heap.size we _ from (by (repeat (first | (with_reducible exact HW.out) | (with_reducible exact Below.refl _ _) | (with_reducible apply bl_drewN) | (with_reducible apply bl_alloc) | (with_reducible apply Below.drew))); done)) hb)
                     clear hb HW
                     have HW := HV
                     clear HV)
        clear hHeld
        refine hK.out _ _ ((by (repeat (first | (with_reducible exact HW.out) | (with_reducible exact Below.refl _ _) | (with_reducible apply bl_drewN) | (with_reducible apply bl_alloc) | (with_reducible apply Below.drew))); done)) (fun hHeld => ?_)
        clear hK K
        refine wpE_take (i := 31) (v := ?_) rfl (by kernel_rfl) (fun _ _ _ h => h) (Or.inl ⟨by kernel_rfl, ?_⟩) (by assumption) ?_
        rotate_left
        focus (intro w9 hS9; (try dsimp only at hS9); go_simp; (try with_reducible rfl))
        (try simp only [List.getElem_toArray, List.getElem_cons_succ, List.getElem_cons_zero])
        (try simp only [Act.put])
        (try simp only [List.setIfInBounds_toArray])
        (repeat (first | simp only [List.set_cons_succ] | simp only [List.set_cons_zero]))
        refine wpE_take (i := 32) (v := ?_) rfl (by kernel_rfl) (fun _ _ _ h => h) (Or.inl ⟨by kernel_rfl, ?_⟩) (by assumption) ?_
        rotate_left
        focus (intro w9 hS9; (try dsimp only at hS9); go_simp; (try with_reducible rfl))
        (try simp only [List.getElem_toArray, List.getElem_cons_succ, List.getElem_cons_zero])
        (try simp only [Act.put])
        (try simp only [List.setIfInBounds_toArray])
        (repeat (first | simp only [List.set_cons_succ] | simp only [List.set_cons_zero]))
        refine wpE_take (i := 33) (v := ?_) rfl (by kernel_rfl) (fun _ _ _ h => h) (Or.inl ⟨by kernel_rfl, ?_⟩) (by assumption) ?_
        rotate_left
        focus (intro w9 hS9; (try dsimp only at hS9); go_simp; (try with_reducible rfl))
        (try simp only [List.getElem_toArray, List.getElem_cons_succ, List.getElem_cons_zero])
        (try simp only [Act.put])
        (try simp only [List.setIfInBounds_toArray])
        (repeat (first | simp only [List.set_cons_succ] | simp only [List.set_cons_zero]))
        refine wpE_take (i := 34) (v := ?_) rfl (by kernel_rfl) (fun _ _ _ h => h) (Or.inl ⟨by kernel_rfl, ?_⟩) (by assumption) ?_
        rotate_left
        focus (intro w9 hS9; (try dsimp only at hS9); go_simp; (try with_reducible rfl))
        (try simp only [List.getElem_toArray, List.getElem_cons_succ, List.getElem_cons_zero])
        (try simp only [Act.put])
        (try simp only [List.setIfInBounds_toArray])
        (repeat (first | simp only [List.set_cons_succ] | simp only [List.set_cons_zero]))
        refine wpE_take (i := 35) (v := ?_) rfl (by kernel_rfl) (fun _ _ _ h => h) (Or.inl ⟨by kernel_rfl, ?_⟩) (by assumption) ?_
        rotate_left
        focus (intro w9 hS9; (try dsimp only at hS9); go_simp; (try with_reducible rfl))
        (try simp only [List.getElem_toArray, List.getElem_cons_succ, List.getElem_cons_zero])
        (try simp only [Act.put])
        (try simp only [List.setIfInBounds_toArray])
        (repeat (first | simp only [List.set_cons_succ] | simp only [List.set_cons_zero]))
        refine wpE_take (i := 36) (v := ?_) rfl (by kernel_rfl) (fun _ _ _ h => h) (Or.inl ⟨by kernel_rfl, ?_⟩) (by assumption) ?_
        rotate_left
        focus (intro w9 hS9; (try dsimp only at hS9); go_simp; (try with_reducible rfl))
        (try simp only [List.getElem_toArray, List.getElem_cons_succ, List.getElem_cons_zero])
        (try simp only [Act.put])
        (try simp only [List.setIfInBounds_toArray])
        (repeat (first | simp only [List.set_cons_succ] | simp only [List.set_cons_zero]))
        clear hHeld
        refine wpE_out (by kernel_rfl) ?_
        refine wpAny_ready (rs := [37]) (by kernel_rfl) (by simp) ?_
        refine AllReady.cons rfl (fun K hK => ?_) AllReady.nil
        rw [if_pos (show _ = true by kernel_rfl)]
        go_simp
        refine hK _ _ ?_
        clear hK K
        refine wpAny_done (by kernel_rfl) ?_ _
        go_wp2
        go_ret
        exact ⟨rfl, bl_trans HBe.out HW.out⟩
      · rw [if_pos (show _ = true by kernel_rfl)]
        go_simp
        clear hHeld
        refine hK.out _ _ ((by (repeat (first | (with_reducible exact HW.out) | (with_reducible exact Below.refl _ _) | (with_reducible apply bl_drewN) | (with_reducible apply bl_alloc) | (with_reducible apply Below.drew))); done)) (fun hHeld => ?_)
        clear hK K
        refine wpE_ready (rs := [22]) (by kernel_rfl) (by kernel_rfl) ?_
        refine AllReadyE.cons rfl (fun K hK => ?_) AllReadyE.nil
        rw [if_pos (show _ = true by kernel_rfl)]
        go_simp
        go_wp2_with (go_at_call 28
                     with_reducible refine (vehEx (HXE.out.step (by (repeat (first | (with_reducible exact HW.out) | (with_reducible exact Below.refl _ _) | (with_reducible apply bl_drewN) | (with_reducible apply bl_alloc) | (with_reducible apply Below.drew))); done))).mono ?_
                     rintro e w78 ⟨⟨a78, c78, rfl, sx⟩, hb⟩
                     have K78 := Lib.hid sx
                     have K79 := Lib.hid ((tSl (by exact heap_alloc_new w72 _)).step hb)
                     clear sx
                     have HV := Lib.hid (bl_trans (show Below we.heap.size we _ from (by (repeat (first | (with_reducible exact HW.out) | (with_reducible exact Below.refl _ _) | (with_reducible apply bl_drewN) | (with_reducible apply bl_alloc) | (with_reducible apply Below.drew))); done)) hb)
                     clear hb HW
                     have HW := HV
                     clear HV)
        clear hHeld
        refine hK.out _ _ ((by (repeat (first | (with_reducible exact HW.out) | (with_reducible exact Below.refl _ _) | (with_reducible apply bl_drewN) | (with_reducible apply bl_alloc) | (with_reducible apply Below.drew))); done)) (fun hHeld => ?_)
        clear hK K
        refine wpE_ready (rs := [24]) (by kernel_rfl) (by kernel_rfl) ?_
        refine AllReadyE.cons rfl (fun K hK => ?_) AllReadyE.nil
        rw [if_pos (show _ = true by kernel_rfl)]
        go_simp
        go_wp2_with (go_at_call 27
                     with_reducible refine (stxEx K78.out K79.out).mono ?_
                     rintro e w80 ⟨rfl, hb⟩
                     have HV := Lib.hid (bl_trans (show Below we.heap.size we _ from (by (repeat (first | (with_reducible exact HW.out) | (with_reducible exact Below.refl _ _) | (with_reducible apply bl_drewN) | (with_reducible apply bl_alloc) | (with_reducible apply Below.drew))); done)) hb)
                     clear hb HW
                     have HW := HV
                     clear HV)
        clear hHeld
        refine hK.out _ _ ((by (repeat (first | (with_reducible exact HW.out) | (with_reducible exact Below.refl _ _) | (with_reducible apply bl_drewN) | (with_reducible apply bl_alloc) | (with_reducible apply Below.drew))); done)) (fun hHeld => ?_)
        clear hK K
        refine wpE_take (i := 25) (v := ?_) rfl (by kernel_rfl) (fun _ _ _ h => h) (Or.inl ⟨by kernel_rfl, ?_⟩) (by assumption) ?_
        rotate_left
        focus (intro w9 hS9; (try dsimp only at hS9); go_simp; (try with_reducible rfl))
        (try simp only [List.getElem_toArray, List.getElem_cons_succ, List.getElem_cons_zero])
        (try simp only [Act.put])
        (try simp only [List.setIfInBounds_toArray])
        (repeat (first | simp only [List.set_cons_succ] | simp only [List.set_cons_zero]))
        refine wpE_take (i := 26) (v := ?_) rfl (by kernel_rfl) (fun _ _ _ h => h) (Or.inl ⟨by kernel_rfl, ?_⟩) (by assumption) ?_
        rotate_left
        focus (intro w9 hS9; (try dsimp only at hS9); go_simp; (try with_reducible rfl))
        (try simp only [List.getElem_toArray, List.getElem_cons_succ, List.getElem_cons_zero])
        (try simp only [Act.put])
        (try simp only [List.setIfInBounds_toArray])
        (repeat (first | simp only [List.set_cons_succ] | simp only [List.set_cons_zero]))
        refine wpE_take (i := 27) (v := ?_) rfl (by kernel_rfl) (fun _ _ _ h => h) (Or.inl ⟨by kernel_rfl, ?_⟩) (by assumption) ?_
        rotate_left
        focus (intro w9 hS9; (try dsimp only at hS9); go_simp; (try with_reducible rfl))
        (try simp only [List.getElem_toArray, List.getElem_cons_succ, List.getElem_cons_zero])
        (try simp only [Act.put])
        (try simp only [List.setIfInBounds_toArray])
        (repeat (first | simp only [List.set_cons_succ] | simp only [List.set_cons_zero]))
        refine wpE_take (i := 28) (v := ?_) rfl (by kernel_rfl) (fun _ _ _ h => h) (Or.inl ⟨by kernel_rfl, ?_⟩) (by assumption) ?_
        rotate_left
        focus (intro w9 hS9; obtain ⟨z0, z1, z2, z3, z4, z5, z6, z7⟩ := CA.out w9 hS9; clear hS9; go_simp; (try with_reducible rfl))
        (try simp only [List.getElem_toArray, List.getElem_cons_succ, List.getElem_cons_zero])
        (try simp only [Act.put])
        (try simp only [List.setIfInBounds_toArray])
        (repeat (first | simp only [List.set_cons_succ] | simp only [List.set_cons_zero]))
        refine wpE_ready (rs := [29]) (by kernel_rfl) (by kernel_rfl) ?_
        refine AllReadyE.cons rfl (fun K hK => ?_) AllReadyE.nil
        rw [if_pos (show _ = true by kernel_rfl)]
        go_simp
        clear hHeld
        refine hK.out _ _ ((by (repeat (first | (with_reducible exact HW.out) | (with_reducible exact Below.refl _ _) | (with_reducible apply bl_drewN) | (with_reducible apply bl_alloc) | (with_reducible apply Below.drew))); done)) (fun hHeld => ?_)
        clear hK K
        refine wpE_ready (rs := [30]) (by kernel_rfl) (by kernel_rfl) ?_
        refine AllReadyE.cons rfl (fun K hK => ?_) AllReadyE.nil
        rw [if_pos (show _ = true by kernel_rfl)]
        go_simp
        go_wp2_with (go_at_call 20
                     with_reducible refine (samEx (S1e.out.step (by (repeat (first | (with_reducible exact HW.out) | (with_reducible exact Below.refl _ _) | (with_reducible apply bl_drewN) | (with_reducible apply bl_alloc) | (with_reducible apply Below.drew))); done)) (aSl (HXE.out.step (by (repeat (first | (with_reducible exact HW.out) | (with_reducible exact Below.refl _ _) | (with_reducible apply bl_drewN) | (with_reducible apply bl_alloc) | (with_reducible apply Below.drew))); done)) (by exact heap_alloc_new w80 _))).mono ?_
                     rintro e w86 ⟨rfl, hb⟩
                     have HV := Lib.hid (bl_trans (show Below we.heap.size we _ from (by (repeat (first | (with_reducible exact HW.out) | (with_reducible exact Below.refl _ _) | (with_reducible apply bl_drewN) | (with_reducible apply bl_alloc) | (with_reducible apply Below.drew))); done)) hb)
                     clear hb HW
                     have HW := HV
                     clear HV)
        clear hHeld
        refine hK.out _ _ ((by (repeat (first | (with_reducible exact HW.out) | (with_reducible exact Below.refl _ _) | (with_reducible apply bl_drewN) | (with_reducible apply bl_alloc) | (with_reducible apply Below.drew))); done)) (fun hHeld => ?_)
        clear hK K
        refine wpE_take (i := 31) (v := ?_) rfl (by kernel_rfl) (fun _ _ _ h => h) (Or.inl ⟨by kernel_rfl, ?_⟩) (by assumption) ?_
        rotate_left
        focus (intro w9 hS9; (try dsimp only at hS9); go_simp; (try with_reducible rfl))
        (try simp only [List.getElem_toArray, List.getElem_cons_succ, List.getElem_cons_zero])
        (try simp only [Act.put])
        (try simp only [List.setIfInBounds_toArray])
        (repeat (first | simp only [List.set_cons_succ] | simp only [List.set_cons_zero]))
        refine wpE_take (i := 32) (v := ?_) rfl (by kernel_rfl) (fun _ _ _ h => h) (Or.inl ⟨by kernel_rfl, ?_⟩) (by assumption) ?_
        rotate_left
        focus (intro w9 hS9; (try dsimp only at hS9); go_simp; (try with_reducible rfl))
        (try simp only [List.getElem_toArray, List.getElem_cons_succ, List.getElem_cons_zero])
        (try simp only [Act.put])
        (try simp only [List.setIfInBounds_toArray])
        (repeat (first | simp only [List.set_cons_succ] | simp only [List.set_cons_zero]))
        refine wpE_take (i := 33) (v := ?_) rfl (by kernel_rfl) (fun _ _ _ h => h) (Or.inl ⟨by kernel_rfl, ?_⟩) (by assumption) ?_
        rotate_left
        focus (intro w9 hS9; (try dsimp only at hS9); go_simp; (try with_reducible rfl))
        (try simp only [List.getElem_toArray, List.getElem_cons_succ, List.getElem_cons_zero])
        (try simp only [Act.put])
        (try simp only [List.setIfInBounds_toArray])
        (repeat (first | simp only [List.set_cons_succ] | simp only [List.set_cons_zero]))
        refine wpE_take (i := 34) (v := ?_) rfl (by kernel_rfl) (fun _ _ _ h => h) (Or.inl ⟨by kernel_rfl, ?_⟩) (by assumption) ?_
        rotate_left
        focus (intro w9 hS9; (try dsimp only at hS9); go_simp; (try with_reducible rfl))
        (try simp only [List.getElem_toArray, List.getElem_cons_succ, List.getElem_cons_zero])
        (try simp only [Act.put])
        (try simp only [List.setIfInBounds_toArray])
        (repeat (first | simp only [List.set_cons_succ] | simp only [List.set_cons_zero]))
        refine wpE_take (i := 35) (v := ?_) rfl (by kernel_rfl) (fun _ _ _ h => h) (Or.inl ⟨by kernel_rfl, ?_⟩) (by assumption) ?_
        rotate_left
        focus (intro w9 hS9; (try dsimp only at hS9); go_simp; (try with_reducible rfl))
        (try simp only [List.getElem_toArray, List.getElem_cons_succ, List.getElem_cons_zero])
        (try simp only [Act.put])
        (try simp only [List.setIfInBounds_toArray])
        (repeat (first | simp only [List.set_cons_succ] | simp only [List.set_cons_zero]))
        refine wpE_take (i := 36) (v := ?_) rfl (by kernel_rfl) (fun _ _ _ h => h) (Or.inl ⟨by kernel_rfl, ?_⟩) (by assumption) ?_
        rotate_left
        focus (intro w9 hS9; (try dsimp only at hS9); go_simp; (try with_reducible rfl))
        (try simp only [List.getElem_toArray, List.getElem_cons_succ, List.getElem_cons_zero])
        (try simp only [Act.put])
        (try simp only [List.setIfInBounds_toArray])
        (repeat (first | simp only [List.set_cons_succ] | simp only [List.set_cons_zero]))
        clear hHeld
        refine wpE_out (by kernel_rfl) ?_
        refine wpAny_ready (rs := [37]) (by kernel_rfl) (by simp) ?_
        refine AllReady.cons rfl (fun K hK => ?_) AllReady.nil
        rw [if_pos (show _ = true by kernel_rfl)]
        go_simp
        refine hK _ _ ?_
        clear hK K
        refine wpAny_done (by kernel_rfl) ?_ _
        go_wp2
        go_ret
        exact ⟨rfl, bl_trans HBe.out HW.out⟩
end Go.Proofs.YtbjhemglecllmaaDoor
