/-
  Layer 44 (recon): the steps (deeds); the walk of fit.
-/
import Derived.Test.YtmjbbpappigngaaGreatMgH
import Derived.Test.YtmjbbpappigngaaGreatMgI
import Derived.Test.YtmjbbpappigngaaGreatMgK
import Derived.Test.YtmjbbpappigngaaGreatRecoQ
import Derived.Test.YtmjbbpappigngaaGreatMgL
import Derived.Test.YtmjbbpappigngaaGreatExcSendR
import Derived.Test.YtmjbbpappigngaaGreatExcEx
namespace Go.Tw.Exc
open Go.RowKit Go.Tw Go.Proofs.YtmjbbpappigngaaGreat
def tDeed : Ty Deed := (tInt.pair ((tRec.list 49).pair (tBool.list 4))).via fun d => (d.side, d.rs, d.lost)
structure DeedOk (S : Nat → Prop) (w : World) (d : Deed) (vr vl : Value) : Prop where
  side : i64ok d.side
  rs : SlIs tRec S w vr d.rs
  lost : SlIs tBool S w vl d.lost
theorem tDeed_is {S : Nat → Prop} {w : World} {cs : List Value} {d : Deed} (h : tDeed.is S w cs d) : ∃ vr vl, cs = [.int .i64 d.side, vr, vl] ∧ DeedOk S w d vr vl := by
  obtain ⟨_, _, rfl, ⟨rfl, h1⟩, _, _, rfl, ⟨vr, rfl, h2⟩, ⟨vl, rfl, h3⟩⟩ := h
  exact ⟨vr, vl, rfl, h1, h2, h3⟩
theorem DeedOk.step {W w : World} {d : Deed} {vr vl : Value} (o : DeedOk (· < W.heap.size) W d vr vl) (hb : Below W.heap.size W w) : DeedOk (· < w.heap.size) w d vr vl := ⟨o.side, o.rs.step hb, o.lost.step hb⟩
theorem deed_open {S : Nat → Prop} {w : World} {v : Value} {l : List Deed} (h : SlIs tDeed S w v l) :
    ∃ ao cap b off, v = .slice ao l.length cap ∧ l.length ≤ cap ∧ cap ≤ maxLen ∧ ∀ w', SameOn S w w' → ∀ k (_ : k < l.length), ao = some ⟨b, off, none⟩ ∧ S b ∧ b < w.heap.size ∧ ∃ vr vl, DeedOk S w' l[k] vr vl ∧
      w'.cell? ⟨b, off + k * 3, none⟩ = some (.int .i64 l[k].side) ∧ w'.cell? ⟨b, off + k * 3 + 1, none⟩ = some vr ∧ w'.cell? ⟨b, off + k * 3 + 2, none⟩ = some vl := by
  obtain ⟨ao, cap, b, off, hv, h1, h2, h3⟩ := h.openS
  refine ⟨ao, cap, b, off, hv, h1, h2, fun w' hw k hk => ?_⟩
  obtain ⟨g1, g2, g2', cs, g3, g4⟩ := h3 w' hw k hk
  obtain ⟨vr, vl, rfl, g5⟩ := tDeed_is g4
  have := cells3 (f := fun j => w'.cell? ⟨b, off + k * 3 + j, none⟩) g3
  exact ⟨g1, g2, g2', vr, vl, g5, this⟩
def FitD (l : List Deed) : Prop := ∀ d ∈ l, d.rs.length ≤ 6 ∧ Small44 d.rs ∧ d.lost.length ≤ 40
end Go.Tw.Exc
namespace Go.Proofs.YtmjbbpappigngaaGreat
open Go.RowKit Go.Tw Go.Tw.Exc
set_option maxRecDepth 100000 in
set_option maxHeartbeats 4000000 in
theorem fit_any (l : List Deed) (v : Value) (w : World) (h : SlIs tDeed (· < w.heap.size) w v l) :
    Calls Tryz.prog 6 #[v] w fun e w' => SmE (FitD l) e ∧ Below w.heap.size w w' := by
  obtain ⟨ao, cp, bb, off, rfl, hl1, hl2, ho⟩ := deed_open h
  unfold maxLen at hl2
  have HL := Lib.hid ho
  clear h ho
  go_enter Tryz.func6, Tryz.ntmps6
  go_wp2_with (fail)
  go_loopg [3] l.length (fun g i wr => ∃ k : Nat, k + g = l.length ∧ i = .int .i64 k ∧ Hid (FitD (l.take k)) ∧ Below w.heap.size w wr)
  case atStart => exact ⟨0, by omega, rfl, Lib.hid (fun d hd => by simp at hd), Below.refl _ _⟩
  case round =>
    obtain ⟨k, hk, rfl, HI, hb⟩ := hrel
    have HB := Lib.hid hb
    clear hb
    by_cases hlt : k < l.length
    · obtain ⟨rfl, -, hbb, vr, vl, hok, d0, d1, d2⟩ := HL.out wr (.of_below HB.out) k hlt
      have HX := Lib.hid (show (l[k].rs.length ≤ 6 ∧ Small44 l[k].rs ∧ l[k].lost.length ≤ 40) → FitD (l.take (k + 1)) from fun hx d hd => by
        rw [List.take_succ_eq_append_getElem hlt] at hd
        rcases List.mem_append.1 hd with hd | hd
        · exact HI.out d hd
        · rw [List.mem_singleton.1 hd]; exact hx)
      obtain ⟨x, hx⟩ : ∃ x, l[k] = x := ⟨_, rfl⟩
      rw [hx] at d0 HX hok
      obtain ⟨ar, cr, _, _, rfl, hr1, hr2, -⟩ := id hok.rs
      obtain ⟨al, cl, _, _, rfl, hll1, hll2, -⟩ := id hok.lost
      unfold maxLen at hr2 hll2
      have HOK := Lib.hid hok
      have k0 : (0 : Int) ≤ (k : Int) := by omega
      have k1 : (k : Int) < (l.length : Int) := by omega
      clear hx hok
      by_cases h1 : 6 < x.rs.length
      · have h1' : (6 : Int) < (x.rs.length : Int) := by omega
        go_wp2_with (fail)
        go_ret
        exact ⟨⟨false, rfl, fun h => by cases h⟩, HB.out⟩
      have h1' : ¬ (6 : Int) < (x.rs.length : Int) := by omega
      go_wp2_with (fail)
      refine (records_any x.rs _ wr (HOK.out.rs.keep (fun k hk => Nat.lt_of_lt_of_le hk HB.out.size) (SameOn.refl _ _))).mono ?_
      rintro e w2 ⟨⟨b1, rfl, hq1⟩, hb2⟩
      have HB2 := Lib.hid (bl_trans HB.out hb2)
      have hbw : bb < wr.heap.size := Nat.lt_of_lt_of_le hbb HB.out.size
      have d2' : w2.cell? ⟨bb, off + k * 3 + 2, none⟩ = some (.slice al x.lost.length cl) := (hb2.cell (p := ⟨bb, off + k * 3 + 2, none⟩) hbw).trans d2
      clear hb2 d0 d1 d2
      cases b1
      case false =>
        go_wp2_with (fail)
        go_ret
        exact ⟨⟨false, rfl, fun h => by cases h⟩, HB2.out⟩
      have HQ1 := Lib.hid (hq1 rfl)
      clear hq1
      by_cases h2 : 40 < x.lost.length
      · have h2' : (40 : Int) < (x.lost.length : Int) := by omega
        go_wp2_with (fail)
        go_ret
        exact ⟨⟨false, rfl, fun h => by cases h⟩, HB2.out⟩
      have h2' : ¬ (40 : Int) < (x.lost.length : Int) := by omega
      have HN := Lib.hid (HX.out ⟨by omega, HQ1.out, by omega⟩)
      go_wp2_with (fail)
      go_roundg (l.length - (k + 1))
      case measure => omega
      case rel => exact ⟨k + 1, by omega, by go_num, HN, HB2.out⟩
    · obtain rfl : k = l.length := by omega
      have hkd : decide ((l.length : Int) < (l.length : Int)) = false := by simp
      have HC := Lib.hid (show FitD l from by have := HI.out; rwa [List.take_length] at this)
      clear hlt hk
      go_wp2_with (fail)
      go_ret
      exact ⟨⟨true, rfl, fun _ => HC.out⟩, HB.out⟩
end Go.Proofs.YtmjbbpappigngaaGreat
/-
  Layer 44 (recon): the walk of fresh.
-/
namespace Go.Proofs.YtmjbbpappigngaaGreat
open Go.RowKit Go.Tw Go.Tw.Exc
theorem nameAAA : nameC sAAA = true := name_yes ⟨by decide, by decide, fun i h => by
  have h' : i < 3 := h
  have : i = 0 ∨ i = 1 ∨ i = 2 := by omega
  rcases this with rfl | rfl | rfl <;> exact .inl ⟨Nat.le_of_ble_eq_true rfl, Nat.le_of_ble_eq_true rfl⟩⟩
theorem nameBBB : nameC sBBB = true := name_yes ⟨by decide, by decide, fun i h => by
  have h' : i < 3 := h
  have : i = 0 ∨ i = 1 ∨ i = 2 := by omega
  rcases this with rfl | rfl | rfl <;> exact .inl ⟨Nat.le_of_ble_eq_true rfl, Nat.le_of_ble_eq_true rfl⟩⟩
theorem new_aaa : newC sAAA = (⟨sAAA, 1, 1, [], [], []⟩, 0) := by unfold newC; rw [nameAAA]; rfl
theorem new_bbb : newC sBBB = (⟨sBBB, 1, 1, [], [], []⟩, 0) := by unfold newC; rw [nameBBB]; rfl
/-- fresh's boxes: the two results, the two partners -/
structure FB (w : World) (p q : Par) (u1 u2 u3 v1 v2 v3 : Value) (c d : Nat) (wx : World) : Prop where
  bel : Below w.heap.size w wx
  ra : wx.heap[w.heap.size]? = some (.cells #[.string ByteArray.empty, .int .i64 0, .int .i64 0, .slice none 0 0, .slice none 0 0, .slice none 0 0] 29 (0, 0))
  rb : wx.heap[w.heap.size + 1]? = some (.cells #[.string ByteArray.empty, .int .i64 0, .int .i64 0, .slice none 0 0, .slice none 0 0, .slice none 0 0] 29 (0, 0))
  px : wx.heap[c]? = some (.cells #[.string p.nm, .int .i64 p.out, .int .i64 p.inn, u1, u2, u3] 29 (0, 0))
  py : wx.heap[d]? = some (.cells #[.string q.nm, .int .i64 q.out, .int .i64 q.inn, v1, v2, v3] 29 (0, 0))
  ox : ParOk (NB (· < w.heap.size) (w.heap.size + 2) c d wx) wx p u1 u2 u3
  oy : ParOk (NB (· < w.heap.size) (w.heap.size + 2) c d wx) wx q v1 v2 v3
theorem FB.step {w : World} {p q : Par} {u1 u2 u3 v1 v2 v3 : Value} {c d : Nat} {wx wy : World} (h : FB w p q u1 u2 u3 v1 v2 v3 c d wx) (hb : Below wx.heap.size wx wy) : FB w p q u1 u2 u3 v1 v2 v3 c d wy :=
  ⟨bl_trans h.bel hb, Go.Tw.Below.at_old hb h.ra, Go.Tw.Below.at_old hb h.rb, Go.Tw.Below.at_old hb h.px, Go.Tw.Below.at_old hb h.py, h.ox.keep (NB.up hb.size) (fun k hk => hb.block k hk.1), h.oy.keep (NB.up hb.size) (fun k hk => hb.block k hk.1)⟩
theorem FB.lt {w : World} {p q : Par} {u1 u2 u3 v1 v2 v3 : Value} {c d : Nat} {wx : World} (h : FB w p q u1 u2 u3 v1 v2 v3 c d wx) : c < wx.heap.size ∧ d < wx.heap.size ∧ w.heap.size + 2 ≤ wx.heap.size := ⟨lt_of_heap h.px, lt_of_heap h.py, by have := lt_of_heap h.rb; omega⟩
theorem FB.setx {w : World} {p q p' : Par} {u1 u2 u3 v1 v2 v3 z1 z2 z3 : Value} {c d : Nat} {wx : World} (h : FB w p q u1 u2 u3 v1 v2 v3 c d wx) (hc : w.heap.size + 2 ≤ c) (hcd : c ≠ d) (hx : ParOk (NB (· < w.heap.size) (w.heap.size + 2) c d wx) wx p' z1 z2 z3) :
    FB w p' q z1 z2 z3 v1 v2 v3 c d ((((((wx.setCell ⟨c, 0, none⟩ (.string p'.nm)).setCell ⟨c, 1, none⟩ (.int .i64 p'.out)).setCell ⟨c, 2, none⟩ (.int .i64 p'.inn)).setCell ⟨c, 3, none⟩ z1).setCell ⟨c, 4, none⟩ z2).setCell ⟨c, 5, none⟩ z3) := by
  have hl : w.heap.size ≤ c := by omega
  exact ⟨bl_set6 h.bel hl, (set6_ne (by omega)).trans h.ra, (set6_ne (by omega)).trans h.rb, set6_same h.px, (set6_ne hcd.symm).trans h.py, hx.keep (NB.up (by simp)) (fun k hk => set6_ne hk.2.2.1), h.oy.keep (NB.up (by simp)) (fun k hk => set6_ne hk.2.2.1)⟩
theorem FB.sety {w : World} {p q q' : Par} {u1 u2 u3 v1 v2 v3 z1 z2 z3 : Value} {c d : Nat} {wx : World} (h : FB w p q u1 u2 u3 v1 v2 v3 c d wx) (hd : w.heap.size + 2 ≤ d) (hcd : c ≠ d) (hy : ParOk (NB (· < w.heap.size) (w.heap.size + 2) c d wx) wx q' z1 z2 z3) :
    FB w p q' u1 u2 u3 z1 z2 z3 c d ((((((wx.setCell ⟨d, 0, none⟩ (.string q'.nm)).setCell ⟨d, 1, none⟩ (.int .i64 q'.out)).setCell ⟨d, 2, none⟩ (.int .i64 q'.inn)).setCell ⟨d, 3, none⟩ z1).setCell ⟨d, 4, none⟩ z2).setCell ⟨d, 5, none⟩ z3) := by
  have hl : w.heap.size ≤ d := by omega
  exact ⟨bl_set6 h.bel hl, (set6_ne (by omega)).trans h.ra, (set6_ne (by omega)).trans h.rb, (set6_ne hcd).trans h.px, set6_same h.py, h.ox.keep (NB.up (by simp)) (fun k hk => set6_ne hk.2.2.2), hy.keep (NB.up (by simp)) (fun k hk => set6_ne hk.2.2.2)⟩
/-- two partners, handed back -/
def RV2 (w' : World) (e : Ending) (r : Par × Par) : Prop := ∃ v1 v2, e = .returned (.tuple #[v1, v2]) ∧ PV (· < w'.heap.size) w' r.1 v1 ∧ PV (· < w'.heap.size) w' r.2 v2
theorem rv2_mk {w' : World} {r : Par × Par} {p q : Par} {x1 x2 x3 y1 y2 y3 : Value} (h : r = (p, q)) (hp : ParOk (· < w'.heap.size) w' p x1 x2 x3) (hq : ParOk (· < w'.heap.size) w' q y1 y2 y3) :
    RV2 w' (.returned (.tuple #[.agg #[.string p.nm, .int .i64 p.out, .int .i64 p.inn, x1, x2, x3], .agg #[.string q.nm, .int .i64 q.out, .int .i64 q.inn, y1, y2, y3]])) r := by
  subst h; exact ⟨_, _, rfl, ⟨_, _, _, rfl, hp⟩, ⟨_, _, _, rfl, hq⟩⟩
theorem pe_form2 {w' : World} {e : Ending} {q : Par × Int} (h : PE w' e q) : ∃ u1 c1 u2 c2 u3 c3, e = .returned (.tuple #[.agg #[.string q.1.nm, .int .i64 q.1.out, .int .i64 q.1.inn, .slice u1 q.1.wt.length c1, .slice u2 q.1.ours.length c2, .slice u3 q.1.thr.length c3], .int .i64 q.2]) ∧
    ParOk (· < w'.heap.size) w' q.1 (.slice u1 q.1.wt.length c1) (.slice u2 q.1.ours.length c2) (.slice u3 q.1.thr.length c3) := by
  obtain ⟨v1, v2, v3, rfl, hq⟩ := h
  obtain ⟨u1, c1, _, _, rfl, -⟩ := id hq.wt
  obtain ⟨u2, c2, _, _, rfl, -⟩ := id hq.ours
  obtain ⟨u3, c3, _, _, rfl, -⟩ := id hq.thr
  exact ⟨_, _, _, _, _, _, rfl, hq⟩
theorem sl_nilE {α : Type} {T : Ty α} {S S' : Nat → Prop} {w w' : World} {v : Value} (h : SlIs T S w v []) : SlIs T S' w' v [] := by
  obtain ⟨ao, cap, b, off, hv, h1, h2, h3, h4⟩ := h
  exact ⟨ao, cap, b, off, hv, h1, h2, h3, fun k hk => absurd hk (Nat.not_lt_zero _)⟩
theorem nil_on {S S' : Nat → Prop} {w w' : World} {n : ByteArray} {o i : Int} {u1 u2 u3 : Value} (h : ParOk S w ⟨n, o, i, [], [], []⟩ u1 u2 u3) : ParOk S' w' ⟨n, o, i, [], [], []⟩ u1 u2 u3 := ⟨h.nm, h.out, h.inn, sl_nilE h.wt, sl_nilE h.ours, sl_nilE h.thr⟩
theorem fresh_take {l : List Deed} {k : Nat} (h : k = 8 ∨ k = l.length) (hk : k ≤ 8) : freshC l = runC (l.take k) := by
  unfold freshC
  rcases h with rfl | rfl
  · rfl
  · rw [List.take_length, List.take_of_length_le hk]
/- a send that may come through: $1 the sender, $2 its values, $3 its name, $4 the box's word, $5 the field, $6 the step's side -/
set_option maxRecDepth 100000 in
set_option maxHeartbeats 8000000 in
theorem fresh_any (l : List Deed) (v : Value) (w : World) (h : SlIs tDeed (· < w.heap.size) w v l) (hl : FitD l) :
    Calls Tryz.prog 8 #[v] w fun e w' => RV2 w' e (freshC l) ∧ Below w.heap.size w w' := by
  obtain ⟨ao, cp, bb, off, rfl, hl1, hl2, ho⟩ := deed_open h
  unfold maxLen at hl2
  have HL := Lib.hid ho
  have HFD := Lib.hid hl
  clear h ho hl
  have HST := Lib.hid (show ∀ k, k ≤ 8 → k ≤ l.length → SzP 48 48 48 (runC (l.take k)).1 ∧ SzP 48 48 48 (runC (l.take k)).2 from fun k h8 hk =>
    ((run_st (fun d hd => (HFD.out d hd).1) k (by omega) hk).up h8).sz (Nat.le_refl _))
  go_enter Tryz.func8, Tryz.ntmps8
  go_wp2_with (fail)
  refine (newR_any sBBB _ (by decide)).mono ?_
  rintro e w3 ⟨he, hb3⟩
  obtain ⟨u1, c1, u2, c2, u3, c3, rfl, hq3⟩ := pe_form2 he
  rw [new_bbb] at hq3 ⊢
  dsimp only at hq3 ⊢
  have HN3 := Lib.hid hq3
  have HB3 := Lib.hid (bl_trans (bl_alloc (bl_alloc (Below.refl w.heap.size w) _) _) hb3)
  have HR0 := Lib.hid (Go.Tw.Below.at_old hb3 (alloc2_0 w _ _))
  have HR1 := Lib.hid (Go.Tw.Below.at_old hb3 (alloc2_1 w _ _))
  have hz3 : w.heap.size + 2 ≤ w3.heap.size := by have := hb3.size; simpa using this
  clear hq3 he hb3
  go_wp2_with (fail)
  refine (newR_any sAAA _ (by decide)).mono ?_
  rintro e w4 ⟨he, hb4⟩
  obtain ⟨g1, h1, g2, h2, g3, h3, rfl, hq4⟩ := pe_form2 he
  rw [new_aaa] at hq4 ⊢
  dsimp only at hq4 ⊢
  have HX0 := Lib.hid (show FB w ⟨sBBB, 1, 1, [], [], []⟩ ⟨sAAA, 1, 1, [], [], []⟩ (.slice u1 0 c1) (.slice u2 0 c2) (.slice u3 0 c3) (.slice g1 0 h1) (.slice g2 0 h2) (.slice g3 0 h3) w3.heap.size w4.heap.size (w4.alloc (.cells #[.string sAAA, .int .i64 1, .int .i64 1, .slice g1 0 h1, .slice g2 0 h2, .slice g3 0 h3] 29)) from by
    have hba := bl_alloc (Below.refl w3.heap.size w3) (.cells #[.string sBBB, .int .i64 1, .int .i64 1, .slice u1 0 c1, .slice u2 0 c2, .slice u3 0 c3] 29)
    have hbb := bl_alloc (Below.refl w4.heap.size w4) (.cells #[.string sAAA, .int .i64 1, .int .i64 1, .slice g1 0 h1, .slice g2 0 h2, .slice g3 0 h3] 29)
    have hbc := bl_trans hba (bl_trans hb4 hbb)
    exact ⟨bl_trans HB3.out hbc, Go.Tw.Below.at_old hbc HR0.out, Go.Tw.Below.at_old hbc HR1.out, Go.Tw.Below.at_old (bl_trans hb4 hbb) (alloc1_0 w3 _), alloc1_0 w4 _, nil_on HN3.out, nil_on hq4⟩)
  obtain ⟨ca, hca⟩ : ∃ k, w3.heap.size = k := ⟨_, rfl⟩
  obtain ⟨cb, hcb⟩ : ∃ k, w4.heap.size = k := ⟨_, rfl⟩
  have hz4 : w3.heap.size + 1 ≤ w4.heap.size := by have := hb4.size; simpa using this
  have hab : ca ≠ cb ∧ w.heap.size + 2 ≤ ca ∧ w.heap.size + 2 ≤ cb := by omega
  obtain ⟨W1, hW1⟩ : ∃ W1, w4.alloc (.cells #[.string sAAA, .int .i64 1, .int .i64 1, .slice g1 0 h1, .slice g2 0 h2, .slice g3 0 h3] 29) = W1 := ⟨_, rfl⟩
  rw [hW1, hca, hcb] at HX0
  have HCA := Lib.hid hca
  have HCB := Lib.hid hcb
  have HW1 := Lib.hid hW1
  clear hca hcb hW1 hq4 he hb4 HN3 HB3 HR0 HR1 hz3 hz4
  obtain ⟨N, hN⟩ : ∃ N, min l.length 8 = N := ⟨_, rfl⟩
  have hN1 : N ≤ l.length ∧ N ≤ 8 ∧ (N = l.length ∨ N = 8) := by omega
  clear hN
  go_wp2_with (fail)
  rw [show (w4.alloc (.cells #[.string sAAA, .int .i64 1, .int .i64 1, .slice g1 0 h1, .slice g2 0 h2, .slice g3 0 h3] 29)) = W1 from HW1.out]
  (try rw [HCA.out])
  (try rw [HCB.out])
  clear HCA HCB HW1
  go_loopg [8] N (fun g i wr => ∃ (k : Nat) (p q : Par) (u1 u2 u3 v1 v2 v3 : Option Addr) (r1 r2 r3 t1 t2 t3 : Nat), k + g = N ∧ i = .int .i64 k ∧ FB w p q (.slice u1 p.wt.length r1) (.slice u2 p.ours.length r2) (.slice u3 p.thr.length r3) (.slice v1 q.wt.length t1) (.slice v2 q.ours.length t2) (.slice v3 q.thr.length t3) ca cb wr ∧ Hid (runC (l.take k) = (p, q)))
  case atStart => exact ⟨0, _, _, _, _, _, _, _, _, _, _, _, _, _, _, by omega, rfl, HX0.out, Lib.hid rfl⟩
  case round =>
    clear HX0
    obtain ⟨k, p, q, u1, u2, u3, v1, v2, v3, r1, r2, r3, t1, t2, t3, hk, rfl, hX, HRN⟩ := hrel
    have HX := Lib.hid hX
    clear hX
    by_cases hlt : k < N
    · have hk1 : k < l.length := by omega
      obtain ⟨rfl, -, hbb, vr, vl, hok, d0, d1, d2⟩ := HL.out wr (.of_below HX.out.bel) k hk1
      have k0 : (0 : Int) ≤ (k : Int) := by omega
      have k1 : (k : Int) < (l.length : Int) := by omega
      have k2 : (k : Int) < 8 := by omega
      have hsz := HST.out k (by omega) (by omega)
      rw [HRN.out] at hsz
      have HSP := Lib.hid (show SzP 48 48 48 p from hsz.1)
      have HSQ := Lib.hid (show SzP 48 48 48 q from hsz.2)
      obtain ⟨x, hx⟩ : ∃ x, l[k] = x := ⟨_, rfl⟩
      have HNX := Lib.hid (show runC (l.take (k + 1)) = stepC (p, q) x from by rw [run_snoc hk1, HRN.out, hx])
      have hx6 : x.rs.length ≤ 6 := by rw [← hx]; exact (HFD.out _ (List.getElem_mem hk1)).1
      rw [hx] at d0 hok
      obtain ⟨ar, cr, _, _, rfl, -⟩ := id hok.rs
      obtain ⟨al, cl, _, _, rfl, -⟩ := id hok.lost
      obtain ⟨wx, hwx⟩ : ∃ wx, wr.alloc (.cells #[.int .i64 x.side, .slice ar x.rs.length cr, .slice al x.lost.length cl] 58) = wx := ⟨_, rfl⟩
      have hbx : Below wr.heap.size wr wx := by rw [← hwx]; exact bl_alloc (Below.refl _ _) _
      have HOK := Lib.hid (show DeedOk (· < wx.heap.size) wx x (.slice ar x.rs.length cr) (.slice al x.lost.length cl) from ⟨hok.side, hok.rs.keep (fun k hk => by have := HX.out.bel.size; have := hbx.size; omega) (fun k hk => hbx.block k (by have := HX.out.bel.size; omega)), hok.lost.keep (fun k hk => by have := HX.out.bel.size; have := hbx.size; omega) (fun k hk => hbx.block k (by have := HX.out.bel.size; omega))⟩)
      have HDB := Lib.hid (show wx.heap[wr.heap.size]? = some (.cells #[.int .i64 x.side, .slice ar x.rs.length cr, .slice al x.lost.length cl] 58 (0, 0)) by rw [← hwx]; exact alloc1_0 wr _)
      have HXX := Lib.hid (HX.out.step hbx)
      clear hx hok hbx hsz HX
      have HX := HXX
      clear HXX
      go_upto_region 7 with (fail)
      (try rw [hwx])
      obtain ⟨b9, hb9⟩ : ∃ k, wr.heap.size = k := ⟨_, rfl⟩
      rw [hb9] at HDB
      (try rw [hb9])
      clear hwx hb9 d0 d1 d2
      obtain ⟨e0, e1, e2, ef⟩ := blk3 HDB.out
      obtain ⟨c0', c1', c2', c3', c4', c5', cf'⟩ := blk6' HX.out.px
      obtain ⟨d0', d1', d2', d3', d4', d5', df'⟩ := blk6' HX.out.py
      by_cases z0 : x.side = 0
      · have z0' : (x.side == 0) = true := by simpa using z0
        have HSTEP := Lib.hid (show stepC (p, q) x = if (sendC p sAAA x.rs).2.2 = 0 then ((sendC p sAAA x.rs).1, q) else (p, q) from by unfold stepC; rw [if_pos z0])
        clear z0
        go_wp2_with (fail)
        refine (sendR_gen (NB (· < w.heap.size) (w.heap.size + 2) ca cb wx) p sAAA x.rs _ _ _ _ wx HX.out.ox (fun k hk => hk.1) (HSP.out.small (by omega) (by omega) (by omega)) (by decide) (HOK.out.rs) (by omega)).mono ?_
        rintro e w2 ⟨he, hb2⟩
        obtain ⟨p1, s1, p2, s2, p3, s3, av, cv, rfl, hq⟩ := he.formR
        obtain ⟨xp, fp, er, hse⟩ : ∃ xp fp er, sendC p sAAA x.rs = (xp, fp, er) := ⟨_, _, _, rfl⟩
        rw [hse] at hq ⊢
        dsimp only at hq ⊢
        have hlt := HX.out.lt
        have HX2 := Lib.hid (HX.out.step hb2)
        have HP2 := Lib.hid (hq.keep (S' := NB (· < w.heap.size) (w.heap.size + 2) ca cb w2) (w' := w2) (fun k hk => NB.sn hlt.1 hlt.2.1 hlt.2.2 hb2.size k hk) (SameOn.refl _ _))
        have HSE := Lib.hid hse
        clear hse hq he hb2 hlt HX c0' c1' c2' c3' c4' c5' cf' d0' d1' d2' d3' d4' d5' df'
        obtain ⟨w4, hw4⟩ : ∃ w4, (w2.alloc (.cells #[.string xp.nm, .int .i64 xp.out, .int .i64 xp.inn, .slice p1 xp.wt.length s1, .slice p2 xp.ours.length s2, .slice p3 xp.thr.length s3] 29)).alloc (.cells #[.string fp.fr, .string fp.to, .int .i64 fp.sq, .slice av fp.rs.length cv] 45) = w4 := ⟨_, rfl⟩
        have hb4 : Below w2.heap.size w2 w4 := by rw [← hw4]; exact bl_alloc (bl_alloc (Below.refl _ _) _) _
        have HB10 := Lib.hid (show w4.heap[w2.heap.size]? = some (.cells #[.string xp.nm, .int .i64 xp.out, .int .i64 xp.inn, .slice p1 xp.wt.length s1, .slice p2 xp.ours.length s2, .slice p3 xp.thr.length s3] 29 (0, 0)) by rw [← hw4]; exact alloc2_0 w2 _ _)
        have HX4 := Lib.hid (HX2.out.step hb4)
        have HP4 := Lib.hid (HP2.out.keep (S' := NB (· < w.heap.size) (w.heap.size + 2) ca cb w4) (w' := w4) (NB.up hb4.size) (fun k hk => hb4.block k hk.1))
        clear hb4 HX2 HP2
        obtain ⟨c0', c1', c2', c3', c4', c5', cf'⟩ := blk6' HX4.out.px
        obtain ⟨d0', d1', d2', d3', d4', d5', df'⟩ := blk6' HX4.out.py
        by_cases z3 : er = 0
        · obtain rfl := z3
          have z3' : ((0 : Int) == 0) = true := by decide
          have HE := Lib.hid (show runC (l.take (k + 1)) = (xp, q) from by rw [HNX.out, HSTEP.out, HSE.out]; rfl)
          have HFIN := Lib.hid (HX4.out.setx hab.2.1 hab.1 HP4.out)
          obtain ⟨j0, j1, j2, j3, j4, j5, jf⟩ := blk6' HB10.out
          go_wp2_with (fail)
          go_roundg (N - (k + 1))
          case measure => omega
          case rel => exact ⟨k + 1, _, _, _, _, _, _, _, _, _, _, _, _, _, _, by omega, by go_num, HFIN.out, HE⟩
        · have z3' : (er == 0) = false := by simpa using z3
          have HE := Lib.hid (show runC (l.take (k + 1)) = (p, q) from by rw [HNX.out, HSTEP.out, HSE.out, if_neg z3])
          clear z3
          go_wp2_with (fail)
          go_roundg (N - (k + 1))
          case measure => omega
          case rel => exact ⟨k + 1, _, _, _, _, _, _, _, _, _, _, _, _, _, _, by omega, by go_num, HX4.out, HE⟩
      · have z0' : (x.side == 0) = false := by simpa using z0
        by_cases z1 : x.side = 1
        · have z1' : (x.side == 1) = true := by simpa using z1
          have HSTEP := Lib.hid (show stepC (p, q) x = if (sendC q sBBB x.rs).2.2 = 0 then (p, (sendC q sBBB x.rs).1) else (p, q) from by unfold stepC; rw [if_neg z0, if_pos z1])
          clear z0 z1
          go_wp2_with (fail)
          refine (sendR_gen (NB (· < w.heap.size) (w.heap.size + 2) ca cb wx) q sBBB x.rs _ _ _ _ wx HX.out.oy (fun k hk => hk.1) (HSQ.out.small (by omega) (by omega) (by omega)) (by decide) (HOK.out.rs) (by omega)).mono ?_
          rintro e w2 ⟨he, hb2⟩
          obtain ⟨p1, s1, p2, s2, p3, s3, av, cv, rfl, hq⟩ := he.formR
          obtain ⟨xp, fp, er, hse⟩ : ∃ xp fp er, sendC q sBBB x.rs = (xp, fp, er) := ⟨_, _, _, rfl⟩
          rw [hse] at hq ⊢
          dsimp only at hq ⊢
          have hlt := HX.out.lt
          have HX2 := Lib.hid (HX.out.step hb2)
          have HP2 := Lib.hid (hq.keep (S' := NB (· < w.heap.size) (w.heap.size + 2) ca cb w2) (w' := w2) (fun k hk => NB.sn hlt.1 hlt.2.1 hlt.2.2 hb2.size k hk) (SameOn.refl _ _))
          have HSE := Lib.hid hse
          clear hse hq he hb2 hlt HX c0' c1' c2' c3' c4' c5' cf' d0' d1' d2' d3' d4' d5' df'
          obtain ⟨w4, hw4⟩ : ∃ w4, (w2.alloc (.cells #[.string xp.nm, .int .i64 xp.out, .int .i64 xp.inn, .slice p1 xp.wt.length s1, .slice p2 xp.ours.length s2, .slice p3 xp.thr.length s3] 29)).alloc (.cells #[.string fp.fr, .string fp.to, .int .i64 fp.sq, .slice av fp.rs.length cv] 45) = w4 := ⟨_, rfl⟩
          have hb4 : Below w2.heap.size w2 w4 := by rw [← hw4]; exact bl_alloc (bl_alloc (Below.refl _ _) _) _
          have HB10 := Lib.hid (show w4.heap[w2.heap.size]? = some (.cells #[.string xp.nm, .int .i64 xp.out, .int .i64 xp.inn, .slice p1 xp.wt.length s1, .slice p2 xp.ours.length s2, .slice p3 xp.thr.length s3] 29 (0, 0)) by rw [← hw4]; exact alloc2_0 w2 _ _)
          have HX4 := Lib.hid (HX2.out.step hb4)
          have HP4 := Lib.hid (HP2.out.keep (S' := NB (· < w.heap.size) (w.heap.size + 2) ca cb w4) (w' := w4) (NB.up hb4.size) (fun k hk => hb4.block k hk.1))
          clear hb4 HX2 HP2
          obtain ⟨c0', c1', c2', c3', c4', c5', cf'⟩ := blk6' HX4.out.px
          obtain ⟨d0', d1', d2', d3', d4', d5', df'⟩ := blk6' HX4.out.py
          by_cases z3 : er = 0
          · obtain rfl := z3
            have z3' : ((0 : Int) == 0) = true := by decide
            have HE := Lib.hid (show runC (l.take (k + 1)) = (p, xp) from by rw [HNX.out, HSTEP.out, HSE.out]; rfl)
            have HFIN := Lib.hid (HX4.out.sety hab.2.2 hab.1 HP4.out)
            obtain ⟨j0, j1, j2, j3, j4, j5, jf⟩ := blk6' HB10.out
            go_wp2_with (fail)
            go_roundg (N - (k + 1))
            case measure => omega
            case rel => exact ⟨k + 1, _, _, _, _, _, _, _, _, _, _, _, _, _, _, by omega, by go_num, HFIN.out, HE⟩
          · have z3' : (er == 0) = false := by simpa using z3
            have HE := Lib.hid (show runC (l.take (k + 1)) = (p, q) from by rw [HNX.out, HSTEP.out, HSE.out, if_neg z3])
            clear z3
            go_wp2_with (fail)
            go_roundg (N - (k + 1))
            case measure => omega
            case rel => exact ⟨k + 1, _, _, _, _, _, _, _, _, _, _, _, _, _, _, by omega, by go_num, HX4.out, HE⟩
        · have z1' : (x.side == 1) = false := by simpa using z1
          have HSTEP := Lib.hid (show stepC (p, q) x = if (roundC p q x.lost).2.2 = 0 then ((roundC p q x.lost).1, (roundC p q x.lost).2.1) else (p, q) from by unfold stepC; rw [if_neg z0, if_neg z1])
          clear z0 z1
          go_wp2_with (fail)
          refine (roundR_gen (NB (· < w.heap.size) (w.heap.size + 2) ca cb wx) 48 48 48 p q x.lost _ _ _ _ _ _ _ wx HX.out.ox HX.out.oy (fun k hk => hk.1) HOK.out.lost HSP.out HSQ.out (by omega) (by omega)).mono ?_
          rintro e w2 ⟨he, hb2⟩
          obtain ⟨p1, s1, p2, s2, p3, s3, o1, q1, o2, q2, o3, q3, rfl, hq1, hq2⟩ := rv_form he
          obtain ⟨xx, yy, er, hr⟩ : ∃ xx yy er, roundC p q x.lost = (xx, yy, er) := ⟨_, _, _, rfl⟩
          rw [hr] at hq1 hq2 ⊢
          dsimp only at hq1 hq2 ⊢
          have HSE := Lib.hid hr
          have hlt := HX.out.lt
          have HX2 := Lib.hid (HX.out.step hb2)
          have HP2 := Lib.hid (hq1.keep (S' := NB (· < w.heap.size) (w.heap.size + 2) ca cb w2) (w' := w2) (fun k hk => NB.sn hlt.1 hlt.2.1 hlt.2.2 hb2.size k hk) (SameOn.refl _ _))
          have HQ2 := Lib.hid (hq2.keep (S' := NB (· < w.heap.size) (w.heap.size + 2) ca cb w2) (w' := w2) (fun k hk => NB.sn hlt.1 hlt.2.1 hlt.2.2 hb2.size k hk) (SameOn.refl _ _))
          clear hr hq1 hq2 he hb2 hlt HX c0' c1' c2' c3' c4' c5' cf' d0' d1' d2' d3' d4' d5' df'
          obtain ⟨w4, hw4⟩ : ∃ w4, (w2.alloc (.cells #[.string xx.nm, .int .i64 xx.out, .int .i64 xx.inn, .slice p1 xx.wt.length s1, .slice p2 xx.ours.length s2, .slice p3 xx.thr.length s3] 29)).alloc (.cells #[.string yy.nm, .int .i64 yy.out, .int .i64 yy.inn, .slice o1 yy.wt.length q1, .slice o2 yy.ours.length q2, .slice o3 yy.thr.length q3] 29) = w4 := ⟨_, rfl⟩
          have hb4 : Below w2.heap.size w2 w4 := by rw [← hw4]; exact bl_alloc (bl_alloc (Below.refl _ _) _) _
          have HB16 := Lib.hid (show w4.heap[w2.heap.size]? = some (.cells #[.string xx.nm, .int .i64 xx.out, .int .i64 xx.inn, .slice p1 xx.wt.length s1, .slice p2 xx.ours.length s2, .slice p3 xx.thr.length s3] 29 (0, 0)) by rw [← hw4]; exact alloc2_0 w2 _ _)
          have HB17 := Lib.hid (show w4.heap[w2.heap.size + 1]? = some (.cells #[.string yy.nm, .int .i64 yy.out, .int .i64 yy.inn, .slice o1 yy.wt.length q1, .slice o2 yy.ours.length q2, .slice o3 yy.thr.length q3] 29 (0, 0)) by rw [← hw4]; exact alloc2_1 w2 _ _)
          have hcd2 : ca < w2.heap.size ∧ cb < w2.heap.size := ⟨HX2.out.lt.1, HX2.out.lt.2.1⟩
          have HX4 := Lib.hid (HX2.out.step hb4)
          have HP4 := Lib.hid (HP2.out.keep (S' := NB (· < w.heap.size) (w.heap.size + 2) ca cb w4) (w' := w4) (NB.up hb4.size) (fun k hk => hb4.block k hk.1))
          have HQ4 := Lib.hid (HQ2.out.keep (S' := NB (· < w.heap.size) (w.heap.size + 2) ca cb w4) (w' := w4) (NB.up hb4.size) (fun k hk => hb4.block k hk.1))
          clear hb4 HX2 HP2 HQ2
          obtain ⟨b16, hb16⟩ : ∃ k, w2.heap.size = k := ⟨_, rfl⟩
          rw [hb16] at HB16 HB17 hcd2
          have HBE := Lib.hid hb16
          have HWE := Lib.hid hw4
          clear hb16 hw4
          go_upto_region 9 with (fail)
          rw [show (w2.alloc (.cells #[.string xx.nm, .int .i64 xx.out, .int .i64 xx.inn, .slice p1 xx.wt.length s1, .slice p2 xx.ours.length s2, .slice p3 xx.thr.length s3] 29)).alloc (.cells #[.string yy.nm, .int .i64 yy.out, .int .i64 yy.inn, .slice o1 yy.wt.length q1, .slice o2 yy.ours.length q2, .slice o3 yy.thr.length q3] 29) = w4 from HWE.out]
          (try rw [HBE.out])
          clear HBE HWE
          obtain ⟨c0', c1', c2', c3', c4', c5', cf'⟩ := blk6' HX4.out.px
          obtain ⟨d0', d1', d2', d3', d4', d5', df'⟩ := blk6' HX4.out.py
          by_cases z3 : er = 0
          · obtain rfl := z3
            have z3' : ((0 : Int) == 0) = true := by decide
            have HE := Lib.hid (show runC (l.take (k + 1)) = (xx, yy) from by rw [HNX.out, HSTEP.out, HSE.out]; rfl)
            have HFX := Lib.hid (HX4.out.setx hab.2.1 hab.1 HP4.out)
            have HFIN := Lib.hid (HFX.out.sety hab.2.2 hab.1 (HQ4.out.keep (NB.up (by simp)) (fun k hk => set6_ne hk.2.2.1)))
            obtain ⟨j0, j1, j2, j3, j4, j5, jf⟩ := blk6' HB16.out
            obtain ⟨i0, i1, i2, i3, i4, i5, if'⟩ := blk6' HB17.out
            have hn1 : ¬ b16 + 1 = ca := by omega
            have hn2 : ¬ ca = b16 + 1 := by omega
            have hn3 : ¬ ca = cb := hab.1
            have hn4 : ¬ cb = ca := fun e => hab.1 e.symm
            go_wp2_with (fail)
            go_roundg (N - (k + 1))
            case measure => omega
            case rel => exact ⟨k + 1, _, _, _, _, _, _, _, _, _, _, _, _, _, _, by omega, by go_num, HFIN.out, HE⟩
          · have z3' : (er == 0) = false := by simpa using z3
            have HE := Lib.hid (show runC (l.take (k + 1)) = (p, q) from by rw [HNX.out, HSTEP.out, HSE.out, if_neg z3])
            clear z3
            go_wp2_with (fail)
            go_roundg (N - (k + 1))
            case measure => omega
            case rel => exact ⟨k + 1, _, _, _, _, _, _, _, _, _, _, _, _, _, _, by omega, by go_num, HX4.out, HE⟩
    · have hkN : k = N := by omega
      have HFR := Lib.hid (show freshC l = (p, q) from by rw [← HRN.out]; exact fresh_take (by omega) (by omega))
      have hne1 : ca ≠ w.heap.size ∧ ca ≠ w.heap.size + 1 := by omega
      have hne2 : cb ≠ w.heap.size ∧ cb ≠ w.heap.size + 1 := by omega
      have HX8 := Lib.hid (box6X HX.out.px hne1.1 hne1.2)
      have HX9 := Lib.hid (box6X HX.out.py hne2.1 hne2.2)
      have hcase : (¬ (k : Int) < (l.length : Int)) ∨ ((k : Int) < (l.length : Int) ∧ ¬ (k : Int) < 8) := by omega
      clear hne1 hne2 hlt hk hkN hN1 HRN
      rcases hcase with q1 | ⟨q1, q2⟩
      · go_upto_region 20 with (fail)
        refine wp_region_D (fun j => if j < 4 then 0 else if j < 4 then 1 else 2) (fun w' => KeepX (w.heap.size) (w.heap.size + 1) wr w') (by kernel_rfl) (KeepX.drew (KeepX.refl _ _ _)) (fun hHeld => ?_)
        refine wpD_take (i := 0) (v := ?_) rfl (by kernel_rfl) (fun _ _ _ h => h) (Or.inl ⟨by kernel_rfl, ?_⟩) (by assumption) ?_
        rotate_left
        focus (intro w9 hS9; obtain ⟨z0, z1, z2, z3, z4, z5⟩ := HX8.out w9 hS9; clear hS9; go_simp; (try with_reducible rfl))
        (try simp only [Act.put])
        (try simp only [List.setIfInBounds_toArray])
        (repeat (first | simp only [List.set_cons_succ] | simp only [List.set_cons_zero]))
        refine wpD_take (i := 1) (v := ?_) rfl (by kernel_rfl) (fun _ _ _ h => h) (Or.inl ⟨by kernel_rfl, ?_⟩) (by assumption) ?_
        rotate_left
        focus (intro w9 hS9; obtain ⟨z0, z1, z2, z3, z4, z5⟩ := HX9.out w9 hS9; clear hS9; go_simp; (try with_reducible rfl))
        (try simp only [Act.put])
        (try simp only [List.setIfInBounds_toArray])
        (repeat (first | simp only [List.set_cons_succ] | simp only [List.set_cons_zero]))
        obtain ⟨s0, s1, s2, s3, s4, s5, sf⟩ := blk6' HX.out.ra
        obtain ⟨t0, t1', t2', t3', t4, t5, tf⟩ := blk6' HX.out.rb
        refine wpD_ready (rs := [2]) (by kernel_rfl) (by kernel_rfl) ?_
        refine AllReadyD.cons rfl (fun K hK => ?_) AllReadyD.nil
        rw [if_pos (show _ = true by kernel_rfl)]
        go_simp
        clear hHeld
        refine hK.out _ _ ⟨fun _ => (by with_reducible exact KeepX.drew (KeepX.set6 (KeepX.refl _ _ _) (.inl rfl))), fun h => absurd h (by decide)⟩ (fun hHeld0 => ?_)
        have hHeld := hHeld0.1 rfl
        clear hHeld0 hK K
        refine wpD_ready (rs := [3]) (by kernel_rfl) (by kernel_rfl) ?_
        refine AllReadyD.cons rfl (fun K hK => ?_) AllReadyD.nil
        rw [if_pos (show _ = true by kernel_rfl)]
        go_simp
        clear hHeld
        refine hK.out _ _ ⟨fun _ => (by with_reducible exact KeepX.drew (KeepX.set6 (KeepX.set6 (KeepX.refl _ _ _) (.inl rfl)) (.inr rfl))), fun h => absurd h (by decide)⟩ (fun hHeld0 => ?_)
        have hHeld := hHeld0.1 rfl
        clear hHeld0 hK K
        refine wpD_done (by kernel_rfl) ?_
        go_wp2_with (fail)
        have h2 : w.heap.size ≤ w.heap.size := Nat.le_refl _
        have h3 : w.heap.size ≤ w.heap.size + 1 := by omega
        refine bodyPost_ret (v := .tuple #[.agg #[.string p.nm, .int .i64 p.out, .int .i64 p.inn, .slice u1 p.wt.length r1, .slice u2 p.ours.length r2, .slice u3 p.thr.length r3], .agg #[.string q.nm, .int .i64 q.out, .int .i64 q.inn, .slice v1 q.wt.length t1, .slice v2 q.ours.length t2, .slice v3 q.thr.length t3]])
          (by simp [results, Tryz.results8, go_sem, s0, s1, s2, s3, s4, s5, t0, t1', t2', t3', t4, t5]) rfl ?_
        have hne : ∀ k, NB (· < w.heap.size) (w.heap.size + 2) ca cb wr k → k ≠ w.heap.size ∧ k ≠ w.heap.size + 1 := fun k hk => by
          rcases hk.2.1 with h | h <;> omega
        refine And.intro ?_ ?_
        · refine rv2_mk HFR.out ?_ ?_
          · refine HX.out.ox.keep (fun k hk => by have := hk.1; simp; omega) (fun k hk => ?_)
            refine KeepX.out (w := wr) (x := w.heap.size) (y := w.heap.size + 1) ?_ k (hne k hk).1 (hne k hk).2
            with_reducible exact KeepX.drew (KeepX.set6 (KeepX.set6 (KeepX.refl _ _ _) (.inl rfl)) (.inr rfl))
          · refine HX.out.oy.keep (fun k hk => by have := hk.1; simp; omega) (fun k hk => ?_)
            refine KeepX.out (w := wr) (x := w.heap.size) (y := w.heap.size + 1) ?_ k (hne k hk).1 (hne k hk).2
            with_reducible exact KeepX.drew (KeepX.set6 (KeepX.set6 (KeepX.refl _ _ _) (.inl rfl)) (.inr rfl))
        · with_reducible exact Below.drew (bl_set6 (bl_set6 HX.out.bel h2) h3)
      · go_upto_region 20 with (fail)
        refine wp_region_D (fun j => if j < 4 then 0 else if j < 4 then 1 else 2) (fun w' => KeepX (w.heap.size) (w.heap.size + 1) wr w') (by kernel_rfl) (KeepX.drew (KeepX.refl _ _ _)) (fun hHeld => ?_)
        refine wpD_take (i := 0) (v := ?_) rfl (by kernel_rfl) (fun _ _ _ h => h) (Or.inl ⟨by kernel_rfl, ?_⟩) (by assumption) ?_
        rotate_left
        focus (intro w9 hS9; obtain ⟨z0, z1, z2, z3, z4, z5⟩ := HX8.out w9 hS9; clear hS9; go_simp; (try with_reducible rfl))
        (try simp only [Act.put])
        (try simp only [List.setIfInBounds_toArray])
        (repeat (first | simp only [List.set_cons_succ] | simp only [List.set_cons_zero]))
        refine wpD_take (i := 1) (v := ?_) rfl (by kernel_rfl) (fun _ _ _ h => h) (Or.inl ⟨by kernel_rfl, ?_⟩) (by assumption) ?_
        rotate_left
        focus (intro w9 hS9; obtain ⟨z0, z1, z2, z3, z4, z5⟩ := HX9.out w9 hS9; clear hS9; go_simp; (try with_reducible rfl))
        (try simp only [Act.put])
        (try simp only [List.setIfInBounds_toArray])
        (repeat (first | simp only [List.set_cons_succ] | simp only [List.set_cons_zero]))
        obtain ⟨s0, s1, s2, s3, s4, s5, sf⟩ := blk6' HX.out.ra
        obtain ⟨t0, t1', t2', t3', t4, t5, tf⟩ := blk6' HX.out.rb
        refine wpD_ready (rs := [2]) (by kernel_rfl) (by kernel_rfl) ?_
        refine AllReadyD.cons rfl (fun K hK => ?_) AllReadyD.nil
        rw [if_pos (show _ = true by kernel_rfl)]
        go_simp
        clear hHeld
        refine hK.out _ _ ⟨fun _ => (by with_reducible exact KeepX.drew (KeepX.set6 (KeepX.refl _ _ _) (.inl rfl))), fun h => absurd h (by decide)⟩ (fun hHeld0 => ?_)
        have hHeld := hHeld0.1 rfl
        clear hHeld0 hK K
        refine wpD_ready (rs := [3]) (by kernel_rfl) (by kernel_rfl) ?_
        refine AllReadyD.cons rfl (fun K hK => ?_) AllReadyD.nil
        rw [if_pos (show _ = true by kernel_rfl)]
        go_simp
        clear hHeld
        refine hK.out _ _ ⟨fun _ => (by with_reducible exact KeepX.drew (KeepX.set6 (KeepX.set6 (KeepX.refl _ _ _) (.inl rfl)) (.inr rfl))), fun h => absurd h (by decide)⟩ (fun hHeld0 => ?_)
        have hHeld := hHeld0.1 rfl
        clear hHeld0 hK K
        refine wpD_done (by kernel_rfl) ?_
        go_wp2_with (fail)
        have h2 : w.heap.size ≤ w.heap.size := Nat.le_refl _
        have h3 : w.heap.size ≤ w.heap.size + 1 := by omega
        refine bodyPost_ret (v := .tuple #[.agg #[.string p.nm, .int .i64 p.out, .int .i64 p.inn, .slice u1 p.wt.length r1, .slice u2 p.ours.length r2, .slice u3 p.thr.length r3], .agg #[.string q.nm, .int .i64 q.out, .int .i64 q.inn, .slice v1 q.wt.length t1, .slice v2 q.ours.length t2, .slice v3 q.thr.length t3]])
          (by simp [results, Tryz.results8, go_sem, s0, s1, s2, s3, s4, s5, t0, t1', t2', t3', t4, t5]) rfl ?_
        have hne : ∀ k, NB (· < w.heap.size) (w.heap.size + 2) ca cb wr k → k ≠ w.heap.size ∧ k ≠ w.heap.size + 1 := fun k hk => by
          rcases hk.2.1 with h | h <;> omega
        refine And.intro ?_ ?_
        · refine rv2_mk HFR.out ?_ ?_
          · refine HX.out.ox.keep (fun k hk => by have := hk.1; simp; omega) (fun k hk => ?_)
            refine KeepX.out (w := wr) (x := w.heap.size) (y := w.heap.size + 1) ?_ k (hne k hk).1 (hne k hk).2
            with_reducible exact KeepX.drew (KeepX.set6 (KeepX.set6 (KeepX.refl _ _ _) (.inl rfl)) (.inr rfl))
          · refine HX.out.oy.keep (fun k hk => by have := hk.1; simp; omega) (fun k hk => ?_)
            refine KeepX.out (w := wr) (x := w.heap.size) (y := w.heap.size + 1) ?_ k (hne k hk).1 (hne k hk).2
            with_reducible exact KeepX.drew (KeepX.set6 (KeepX.set6 (KeepX.refl _ _ _) (.inl rfl)) (.inr rfl))
        · with_reducible exact Below.drew (bl_set6 (bl_set6 HX.out.bel h2) h3)
end Go.Proofs.YtmjbbpappigngaaGreat
