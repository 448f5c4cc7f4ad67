/-
  Layer 43 (exchange): the walks of Ack's closure, IndexFunc, DeleteFunc.
-/
import Derived.Test.YtmjbbpappigngaaGreatExcDel
namespace Go.Tw.Exc
open Go.RowKit Go.Tw
theorem kept_all {sq : Int} : ∀ {L : List (Fil × Value)}, (∀ x ∈ L, kept sq x = true) → L.filter (kept sq) = L := fun {_} h => List.filter_eq_self.2 h
theorem zero4 (n : Nat) : ∀ v ∈ (Builtin.zeroCells (Value.agg #[.string ByteArray.empty, .string ByteArray.empty, .int .i64 0, .slice none 0 0]).cells n).toList, v.oneCell' = true := by
  intro v hv
  unfold Builtin.zeroCells at hv
  simp only [Array.toList_map, List.mem_map] at hv
  obtain ⟨i, -, rfl⟩ := hv
  have e : (Value.agg #[.string ByteArray.empty, .string ByteArray.empty, .int .i64 0, .slice none 0 0]).cells = #[.string ByteArray.empty, .string ByteArray.empty, .int .i64 0, .slice none 0 0] := by rfl
  rw [e]
  have : i % 4 = 0 ∨ i % 4 = 1 ∨ i % 4 = 2 ∨ i % 4 = 3 := by omega
  show (#[Value.string ByteArray.empty, .string ByteArray.empty, .int .i64 0, .slice none 0 0][i % 4]!).oneCell' = true
  rcases this with q | q | q | q <;> rw [q] <;> rfl
end Go.Tw.Exc
namespace Go.Proofs.YtmjbbpappigngaaGreat
open Go.RowKit Go.Tw Go.Tw.Exc
theorem pred_any (f : Fil) (v : Value) (ao : Option Addr) (n cap : Nat) (hv : v = .slice ao n cap) (sq : Int) (b : Nat) (w : World) (hb : b < w.heap.size) (hc : w.cell? ⟨b, 0, none⟩ = some (.int .i64 sq)) :
    Calls Tryz.prog 69 #[.agg #[.string f.fr, .string f.to, .int .i64 f.sq, v], .pointer (some ⟨b, 0, none⟩)] w fun e w' => e = .returned (.bool (!kept sq (f, v))) ∧ Below w.heap.size w w' := by
  subst hv
  have hbn : ¬ b = w.heap.size := by omega
  have hbn2 : ¬ w.heap.size = b := by omega
  have HK := Lib.hid (show (!kept sq (f, .slice ao n cap)) = decide (f.sq ≤ sq) by unfold kept; simp; by_cases q : f.sq ≤ sq <;> simp [q] <;> omega)
  go_enter Tryz.func69, Tryz.ntmps69
  go_wp2
  all_goals
    go_ret
    exact ⟨by first | exact ret_bool HK.out | exact ret_bool (by rw [HK.out]; simp [*]), bl_alloc (Below.refl _ _) _⟩
/-- what is elsewhere is as it was -/
structure Off (g : Nat) (w wr : World) : Prop where
  bel : Below g w wr
  sz : w.heap.size ≤ wr.heap.size
  oth : ∀ k, k < w.heap.size → k ≠ g → wr.heap[k]? = w.heap[k]?
theorem Off.refl (g : Nat) (w : World) : Off g w w := ⟨Below.refl _ _, Nat.le_refl _, fun _ _ _ => rfl⟩
theorem Off.below {g : Nat} {w wr w' : World} (h : Off g w wr) (hg : g < w.heap.size) (hb : Below wr.heap.size wr w') : Off g w w' :=
  ⟨h.bel.trans (hb.mono (by have := h.sz; omega)), Nat.le_trans h.sz hb.size, fun k h1 h2 => (hb.block k (Nat.lt_of_lt_of_le h1 h.sz)).trans (h.oth k h1 h2)⟩
theorem Off.set {g o : Nat} {v : Value} {w wr : World} (h : Off g w wr) : Off g w (wr.setCell ⟨g, o, none⟩ v) :=
  ⟨h.bel.setCell (Nat.le_refl _) v, by simpa using h.sz, fun k h1 h2 => (Below.heap_setCell _ _ _ _ h2).trans (h.oth k h1 h2)⟩
theorem Off.setCells {g : Nat} {w : World} : ∀ (vs : List Value) (o : Nat) (wr : World), Off g w wr → Off g w (wr.setCells g o vs)
  | [], _, _, h => h
  | _ :: r, o, _, h => Off.setCells r (o + 1) _ h.set
set_option maxRecDepth 100000 in
set_option maxHeartbeats 2000000 in
theorem indexF_any (L : List (Fil × Value)) (g cap : Nat) (t : TypeId) (sz : Nat) (sq : Int) (b : Nat) (w : World) (hr : RowF w g t sz L) (hform : ∀ x ∈ L, ∃ a n c, x.2 = .slice a n c) (hcap : L.length ≤ cap) (hm : cap ≤ maxLen) (hb : b < w.heap.size) (hc : w.cell? ⟨b, 0, none⟩ = some (.int .i64 sq)) :
    Calls Tryz.prog 81 #[.slice (some ⟨g, 0, none⟩) L.length cap, .func (.func 69) #[] #[.pointer (some ⟨b, 0, none⟩)]] w
      fun e w' => ((e = .returned (.int .i64 (-1)) ∧ L.filter (kept sq) = L) ∨ ∃ i, ∃ h : i < L.length, e = .returned (.int .i64 i) ∧ kept sq L[i] = false ∧ (L.take i).filter (kept sq) = L.take i) ∧ Below w.heap.size w w' := by
  have HR := Lib.hid hr
  have HFM := Lib.hid hform
  have hgl := hr.lt
  unfold maxLen at hm
  clear hr hform
  go_enter Tryz.func81, Tryz.ntmps81
  go_wp2
  go_loopg [8] L.length (fun g' i wr => ∃ k : Nat, k + g' = L.length ∧ i = .int .i64 k ∧ Hid ((L.take k).filter (kept sq) = L.take k) ∧ Below w.heap.size w wr)
  case atStart => exact ⟨0, by omega, rfl, Lib.hid rfl, Below.refl _ _⟩
  case round =>
    obtain ⟨k, hk, rfl, HK, hb1⟩ := hrel
    have HB := Lib.hid hb1
    by_cases hk2 : k < L.length
    · have HRw := Lib.hid (HR.out.block (hb1.block g hgl))
      have hform := HFM.out
      obtain ⟨x, hx⟩ : ∃ x, L[k] = x := ⟨_, rfl⟩
      obtain ⟨y0, y1, y2, y3, yf⟩ := HRw.out.cells hk2
      rw [hx] at y0 y1 y2 y3
      obtain ⟨va, vn, vc, hvx⟩ := hform x (by rw [← hx]; exact List.getElem_mem hk2)
      have hc2 : wr.cell? ⟨b, 0, none⟩ = some (.int .i64 sq) := (hb1.cell (p := ⟨b, 0, none⟩) hb).trans hc
      have hb2 : b < wr.heap.size := Nat.lt_of_lt_of_le hb hb1.size
      have HKT := Lib.hid (kept_take (sq := sq) hk2)
      have HKX := Lib.hid (show kept sq L[k] = kept sq x by rw [hx])
      have HTS := Lib.hid (List.take_succ_eq_append_getElem hk2)
      obtain ⟨xf, xv⟩ := x
      simp only at hvx
      subst hvx
      have HP := Lib.hid (pred_any xf (.slice va vn vc) va vn vc rfl sq b wr hb2 hc2)
      have k0 : (0 : Int) ≤ (k : Int) := by omega
      have k1 : (k : Int) < (L.length : Int) := by omega
      clear hform hc2 hb1
      cases hq : kept sq (xf, .slice va vn vc)
      · rw [hq] at HP
        have HQ := Lib.hid (HKX.out.trans hq)
        clear hq hx
        go_wp2_with (go_at_call 69; refine HP.out.mono ?_; rintro e w2 ⟨rfl, hb3⟩; have HB3 := Lib.hid (bl_trans HB.out hb3); clear hb3)
        go_ret
        exact ⟨.inr ⟨k, hk2, rfl, HQ.out, HK.out⟩, HB3.out⟩
      · rw [hq] at HP
        have HQ := Lib.hid (HKX.out.trans hq)
        clear hq hx
        go_wp2_with (go_at_call 69; refine HP.out.mono ?_; rintro e w2 ⟨rfl, hb3⟩; have HB3 := Lib.hid (bl_trans HB.out hb3); clear hb3)
        go_roundg (L.length - (k + 1))
        case measure => omega
        case rel => exact ⟨k + 1, by omega, by go_num, Lib.hid (by rw [HKT.out, if_pos HQ.out, HK.out, HTS.out]), HB3.out⟩
    · obtain rfl : k = L.length := by omega
      have hkd : decide ((L.length : Int) < (L.length : Int)) = false := by simp
      have HK2 := Lib.hid (show L.filter (kept sq) = L by have := HK.out; rwa [List.take_length] at this)
      clear hk2
      go_wp2
      go_ret
      exact ⟨.inl ⟨rfl, HK2.out⟩, HB.out⟩
/-- what DeleteFunc leaves -/
def DelE (w : World) (g : Nat) (S : Nat → Prop) (l : List Fil) (e : Ending) (w' : World) : Prop := ∃ v', e = .returned v' ∧ SlIs tFil S w' v' l ∧ Off g w w'
set_option maxRecDepth 100000 in
set_option maxHeartbeats 4000000 in
theorem delF_any (L : List (Fil × Value)) (g cap : Nat) (sq : Int) (b : Nat) (w : World) (S : Nat → Prop) (hS : S g) (hSw : ∀ k, S k → k < w.heap.size) (hL : ∀ x ∈ L, FilOk (fun k => S k ∧ k ≠ g) w x.1 x.2) (hr : RowF w g 45 (cap * 4) L) (hcap : L.length ≤ cap) (hm : cap ≤ maxLen) (hb : b < w.heap.size) (hbg : b ≠ g) (hc : w.cell? ⟨b, 0, none⟩ = some (.int .i64 sq)) :
    Calls Tryz.prog 68 #[.slice (some ⟨g, 0, none⟩) L.length cap, .func (.func 69) #[] #[.pointer (some ⟨b, 0, none⟩)]] w
      (DelE w g S ((L.map (·.1)).filter fun f => decide (sq < f.sq))) := by
  have HR := Lib.hid hr
  have HL := Lib.hid hL
  have hform : ∀ x ∈ L, ∃ a n c, x.2 = .slice a n c := fun x hx => by
    obtain ⟨a, c, _, _, e, -⟩ := (hL x hx).rs
    exact ⟨a, _, c, e⟩
  have HFM := Lib.hid hform
  have hgl := hr.lt
  have HI := Lib.hid (indexF_any L g cap _ _ sq b w hr hform hcap hm hb hc)
  have HMX := Lib.hid hm
  unfold maxLen at hm
  clear hr hL hform
  go_enter Tryz.func68, Tryz.ntmps68
  go_wp2_with (fail)
  refine HI.out.mono ?_
  rintro e w1 ⟨he, hb1⟩
  have HOF := Lib.hid ((Off.refl g w).below hgl hb1)
  have HR1 := Lib.hid (HR.out.block (hb1.block g hgl))
  rcases he with ⟨rfl, hk⟩ | ⟨i, hi, rfl, hki, hkt⟩
  · have HK := Lib.hid hk
    clear hk hb1
    go_wp2_with (fail)
    go_ret
    refine ⟨_, rfl, ?_, HOF.out⟩
    rw [← kept_map, HK.out]
    exact HR1.out.sl hS hcap HMX.out (fun x hx => (HL.out x hx).keep (fun k hk => hk.1) (fun k hk => HOF.out.oth k (hSw k hk.1) hk.2))
  have HK0 := Lib.hid (show (L.take (i + 1)).filter (kept sq) = L.take i by rw [kept_take hi, if_neg (by simp [hki]), hkt])
  have hi2 : IntKind.i64.wrap ((i : Int) + 1) = ((i + 1 : Nat) : Int) := by rw [wrap_in (by omega) (by omega)]; rfl
  have hi3 : ((i : Int) == -1) = false := by first | (simp; done) | (simp; omega)
  clear hki hkt hb1
  have hLc : ∀ wr, Off g w wr → wr.cell? ⟨b, 0, none⟩ = some (.int .i64 sq) := fun wr h => (World.cell?_of_block (h.oth b hb hbg)).trans hc
  have HLC := Lib.hid hLc
  clear hLc
  go_wp2_with (fail)
  go_loopg [6, 5] (L.length - (i + 1)) (fun g' j' i' wr => ∃ j i : Nat, j + g' = L.length ∧ j' = .int .i64 j ∧ i' = .int .i64 i ∧ i < j ∧ Hid (((L.take j).filter (kept sq)).length = i) ∧ RowF wr g 45 (cap * 4) ((L.take j).filter (kept sq) ++ L.drop i) ∧ Off g w wr)
  case atStart => exact ⟨i + 1, i, by omega, by go_num, rfl, by omega, Lib.hid (by rw [HK0.out, List.length_take]; omega), by rw [HK0.out, List.take_append_drop]; exact HR1.out, HOF.out⟩
  case round =>
    clear HK0 HR1 HOF hi2 hi3
    obtain ⟨j, i, hj, rfl, rfl, hij, HK, hrow, hoff⟩ := hrel
    have HROW := Lib.hid hrow
    have HOFF := Lib.hid hoff
    clear hrow hoff
    obtain ⟨K, hKK⟩ : ∃ K, (L.take j).filter (kept sq) = K := ⟨_, rfl⟩
    rw [hKK] at HK HROW
    have HKK := Lib.hid hKK
    clear hKK
    by_cases hjl : j < L.length
    · have hjr : j < (K ++ L.drop i).length := by rw [List.length_append, HK.out, List.length_drop]; omega
      have hir : i < (K ++ L.drop i).length := by omega
      obtain ⟨y0, y1, y2, y3, yf⟩ := HROW.out.cells hjr
      have e := row_get HK.out (by omega) hjl hjr
      rw [e] at y0 y1 y2 y3
      have HKT := Lib.hid (kept_take (sq := sq) hjl)
      obtain ⟨va, vn, vc, hvx⟩ := HFM.out L[j] (List.getElem_mem hjl)
      obtain ⟨x, hx⟩ : ∃ x, L[j] = x := ⟨_, rfl⟩
      rw [hx] at y0 y1 y2 y3 hvx HKT
      obtain ⟨xf, xv⟩ := x
      simp only at hvx y0 y1 y2 y3
      subst hvx
      have hglr := HROW.out.lt
      have hszr := HOFF.out.sz
      have HCB := Lib.hid (HLC.out wr HOFF.out)
      have HP := Lib.hid (show ∀ o, Calls Tryz.prog 69 #[.agg #[.string xf.fr, .string xf.to, .int .i64 xf.sq, .slice va vn vc], .pointer (some ⟨b, 0, none⟩)] (wr.alloc o) fun e w' => e = .returned (.bool (!kept sq (xf, .slice va vn vc))) ∧ Below (wr.alloc o).heap.size (wr.alloc o) w' from fun o =>
        pred_any xf (.slice va vn vc) va vn vc rfl sq b (wr.alloc o) (by simp; omega) (((bl_alloc (Below.refl wr.heap.size wr) o).cell (p := ⟨b, 0, none⟩) (by show b < wr.heap.size; omega)).trans HCB.out))
      have j0 : (0 : Int) ≤ (j : Int) := by omega
      have j1 : (j : Int) < (L.length : Int) := by omega
      have i0 : (0 : Int) ≤ (i : Int) := by omega
      have i1 : (i : Int) < (L.length : Int) := by omega
      clear e hx hjr
      cases hq : kept sq (xf, .slice va vn vc)
      · rw [hq] at HP
        have HT := Lib.hid (HKT.out.trans (if_neg (by simp [hq])))
        clear hq
        go_wp2_with (go_at_call 69; refine (HP.out _).mono ?_; rintro e w2 ⟨rfl, hb3⟩; have HB3 := Lib.hid (show Below wr.heap.size wr w2 from (bl_alloc (Below.refl _ _) _).trans (hb3.mono (by simp))); clear hb3)
        go_roundg (L.length - (j + 1))
        case measure => omega
        case rel => exact ⟨j + 1, i, by omega, by go_num, rfl, by omega, Lib.hid (by rw [HT.out, HKK.out]; exact HK.out), by rw [HT.out, HKK.out]; exact HROW.out.block (HB3.out.block g hglr), HOFF.out.below hgl HB3.out⟩
      · rw [hq] at HP
        have HT := Lib.hid (HKT.out.trans (if_pos hq))
        clear hq
        go_wp2_with (
          go_at_call 69
          refine (HP.out _).mono ?_
          rintro e w2 ⟨rfl, hb3⟩
          have HB3 := Lib.hid (show Below wr.heap.size wr w2 from (bl_alloc (Below.refl _ _) _).trans (hb3.mono (by simp)))
          have HR2 := Lib.hid (HROW.out.block (HB3.out.block g hglr))
          obtain ⟨u0, u1, u2, u3, u4⟩ := blk4 (below_new hb3 (by simp))
          obtain ⟨z0, z1, z2, z3, zf⟩ := HR2.out.cells hir
          clear hb3)
        have HR3 := Lib.hid (HR2.out.set hir xf (.slice va vn vc))
        rw [row_set HK.out (by omega)] at HR3
        go_roundg (L.length - (j + 1))
        case measure => omega
        case rel => exact ⟨j + 1, i + 1, by omega, by go_num, by go_num, by omega, Lib.hid (by rw [HT.out, HKK.out, List.length_append, HK.out]; rfl), by rw [HT.out, HKK.out]; exact HR3.out, (HOFF.out.below hgl HB3.out).set.set.set.set⟩
    · obtain rfl : j = L.length := by omega
      have hkd : decide ((L.length : Int) < (L.length : Int)) = false := by simp
      have HKF := Lib.hid (show L.filter (kept sq) = K by have := HKK.out; rwa [List.take_length] at this)
      have i0 : (0 : Int) ≤ (i : Int) := by omega
      have i1 : (i : Int) ≤ (L.length : Int) := by omega
      have i2 : (i : Int) ≤ (cap : Int) := by omega
      have hrl := HROW.out
      obtain ⟨A, a1, a2, a3⟩ := hrl
      have hzl : (Builtin.zeroCells (Value.agg #[.string ByteArray.empty, .string ByteArray.empty, .int .i64 0, .slice none 0 0]).cells (L.length - i)).toList.length = (L.length - i) * 4 := by
        unfold Builtin.zeroCells
        simp
        rfl
      have hasz : L.length * 4 ≤ A.size := by rw [a2]; omega
      have hcl : ∀ ty, (Builtin.clear_ #[26] ty #[.slice (some ⟨g, i * 4, none⟩) (L.length - i) (cap - i)]).run Tryz.prog wr = .ok (.tuple #[]) (wr.setCells g (i * 4) (Builtin.zeroCells (Value.agg #[.string ByteArray.empty, .string ByteArray.empty, .int .i64 0, .slice none 0 0]).cells (L.length - i)).toList) :=
        fun ty => run_clear_wide wr _ 45 ty _ Tryz.underlying26 (fun _ => by kernel_rfl) (zero4 1) g (i * 4) _ _ (by omega) (fun t ht => by
          rw [hzl] at ht
          rw [cell_of_row _ _ _ _ _ _ a1, Array.getElem?_eq_getElem (by omega)]; rfl) (fun t _ => frozen_of_row _ _ _ _ _ a1) (zero4 _)
      have HRC := Lib.hid (show RowF (wr.setCells g (i * 4) (Builtin.zeroCells (Value.agg #[.string ByteArray.empty, .string ByteArray.empty, .int .i64 0, .slice none 0 0]).cells (L.length - i)).toList) g 45 (cap * 4) K by
        have := HROW.out.clear (Builtin.zeroCells (Value.agg #[.string ByteArray.empty, .string ByteArray.empty, .int .i64 0, .slice none 0 0]).cells (L.length - i)).toList
        rwa [HK.out] at this)
      have HOC := Lib.hid (HOFF.out.setCells (Builtin.zeroCells (Value.agg #[.string ByteArray.empty, .string ByteArray.empty, .int .i64 0, .slice none 0 0]).cells (L.length - i)).toList (i * 4))
      clear a1 a2 a3 hzl hasz hjl
      go_wp2_with (fail)
      go_ret
      refine ⟨_, rfl, ?_, HOC.out⟩
      have hfin := HRC.out.sl hS (by rw [HK.out]; omega) HMX.out (fun x hx => by
        have hxL : x ∈ L := by rw [← HKF.out] at hx; exact (List.mem_filter.1 hx).1
        exact (HL.out x hxL).keep (fun k hk => hk.1) (fun k hk => HOC.out.oth k (hSw k hk.1) hk.2))
      rw [HK.out] at hfin
      rw [← kept_map, HKF.out]
      exact hfin
end Go.Proofs.YtmjbbpappigngaaGreat
