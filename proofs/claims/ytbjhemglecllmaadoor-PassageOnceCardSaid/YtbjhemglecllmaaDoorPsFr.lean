/-
  Layer 17 (passage): Sort, Of: their results lie in blocks of the call's own.
-/
import Derived.Test.YtbjhemglecllmaaDoorMgE
namespace Go.Tw
open Go.RowKit
variable {α : Type} {T : Ty α} {e : TypeId} {B : Nat} {w w' : World} {v : Value} {l : List α}
/-- a slice of the call's own whose elements look at blocks made from B on -/
def OwnF {α : Type} (T : Ty α) (e : TypeId) (B : Nat) (w : World) (v : Value) (l : List α) : Prop := OwnS T e B (fun k => B ≤ k ∧ k < w.heap.size ∧ some k ≠ v.ownBlock) w v l
theorem OwnF.own_lt (h : OwnF T e B w v l) : ∀ k, v.ownBlock = some k → B ≤ k ∧ k < w.heap.size := OwnS.own_lt h
theorem OwnF.below (h : OwnF T e B w v l) (hb : Below w.heap.size w w') : OwnF T e B w' v l :=
  OwnS.mono (OwnS.below h (fun _ hk => hk.2.1) hb) fun _ hk => ⟨hk.1, Nat.lt_of_lt_of_le hk.2.1 hb.size, hk.2.2⟩
theorem OwnF.alloc (h : OwnF T e B w v l) (o : Obj) : OwnF T e B (w.alloc o) v l := h.below ((Below.refl _ _).alloc (Nat.le_refl _) o)
theorem OwnF.sl (h : OwnF T e B w v l) : SlIs T (fun k => B ≤ k ∧ k < w.heap.size) w v l := (OwnS.sl h).keep (fun k hk => by
  rcases hk with hk | hk
  · exact ⟨hk.1, hk.2.1⟩
  · exact OwnS.own_lt h k hk) (SameOn.refl _ _)
theorem OwnF.formS (h : OwnF T e B w v l) (hl : 0 < l.length) : ∃ g cap, v = .slice (some ⟨g, 0, none⟩) l.length cap := by
  obtain ⟨css, h1, _⟩ := h
  rcases h1.2 with ⟨_, h'⟩ | ⟨g, cap, cur, h, _⟩
  · omega
  · exact ⟨g, cap, h⟩
theorem wpList_append_oneF {P : Program} {ops : Array Oper} {rest : List Oper} {o : Oper} {a : Act} {Q : Exit → Act → World → Prop} {S : Nat → Prop} (s x : Operand) (hgd : o.guard = none) (t : TypeId)
    (ho : o.op = .call { callee := .builtin .append, args := #[s, x], argTypes := #[t, t] }) {e' : TypeId} {bytes : Nat} (hT : SlT P t e T.sz bytes) {y : α} {cs : Array Value} (hs : a.eval s = v) (hown : OwnF T e B w v l)
    (hx : a.eval x = .slice (some ⟨w.heap.size, 0, none⟩) 1 1) (hy : T.is S w cs.toList y) (hS : ∀ k, S k → B ≤ k ∧ k < w.heap.size ∧ some k ≠ v.ownBlock) (hbytes : (l.length + 1) * bytes ≤ 140737488355328) (h63 : l.length + 1 ≤ maxLen) (hB : B ≤ w.heap.size)
    (h : ∀ v' w', OwnF T e B w' v' (l ++ [y]) → (w.alloc (.cells cs e')).grownBy w' v.ownBlock → Below B w w' → wpList P ops Q rest (a.put o.dst v') w') : wpList P ops Q (o :: rest) a (w.alloc (.cells cs e')) :=
  wpList_append_oneS s x hgd t ho hT hs hown (fun _ hk => hk.2) hx hy (fun k hk => (hS k hk).2) hbytes h63 hB fun v' w' h1 h2 h3 => by
    have hz : w.heap.size + 1 ≤ w'.heap.size := by have := h2.size; simpa using this
    refine h v' w' (OwnS.mono h1 fun k hk => ?_) h2 (((Below.refl B w).alloc hB _).grown h2 (by simp; omega) (fun k hk => (OwnS.own_lt hown k hk).1))
    have key : ∀ k, B ≤ k → k < w.heap.size → some k ≠ v.ownBlock → B ≤ k ∧ k < w'.heap.size ∧ some k ≠ v'.ownBlock := fun k a1 a2 a3 => ⟨a1, by omega, by
      rcases h3 with h3 | h3
      · rw [h3]; exact a3
      · rw [h3]; intro q; injection q with q; omega⟩
    rcases hk with hk | hk | rfl
    · exact key k hk.1 hk.2.1 hk.2.2
    · exact key k (hS k hk).1 (hS k hk).2.1 (hS k hk).2.2
    · refine ⟨hB, by omega, ?_⟩
      rcases h3 with h3 | h3
      · rw [h3]; intro q; have := (OwnS.own_lt hown _ q.symm).2; omega
      · rw [h3]; intro q; injection q with q; omega
end Go.Tw
namespace Go.Tw.Ps
open Go.RowKit Go.Tw Go.Sort Go.Tw.Ord
open Go.Proofs (sortWorld sortWorldK ltOf)
theorem AllIs.pvF {e : TypeId} {w0 : World} {g : Nat} {S0 : Nat → Prop} (hS : ∀ k, S0 k → k < w0.heap.size ∧ k ≠ g) : ∀ {css : List (List Value)} {l : List Pas}, AllIs (tPas e) S0 w0 css l → ∃ ds : List (PV w0 g), ds.map PV.p = l ∧ css = ds.map pvE ∧ ∀ x ∈ ds, SlIs tSrc S0 w0 (.slice x.a x.n x.c) x.p.src
  | [], [], _ => ⟨[], rfl, rfl, fun _ h => by cases h⟩
  | cs :: css, x :: l, h => by
    obtain ⟨ds, h1, h2, h3⟩ := AllIs.pvF hS h.2
    obtain ⟨vs, rfl, g5, g6⟩ := tPas_is h.1
    obtain ⟨a, c, _, _, rfl, -⟩ := id g6
    exact ⟨⟨x, a, _, c, g6.keep hS (SameOn.refl _ _), g5⟩ :: ds, by simp [h1], by simp [h2, pvE], fun y hy => by
      rcases List.mem_cons.1 hy with rfl | hy
      · exact g6
      · exact h3 y hy⟩
  | [], _ :: _, h => h.elim
  | _ :: _, [], h => h.elim
/-- the sorted row, read again -/
theorem slP_ofF {B : Nat} {e : TypeId} {w0 w : World} {g cap : Nat} {ds : List (PV w0 g)} (hB : B ≤ g) (hq : ∀ x ∈ ds, SlIs tSrc (fun k => B ≤ k ∧ k < w0.heap.size ∧ k ≠ g) w0 (.slice x.a x.n x.c) x.p.src) (h : HoldsK pvE 8 w g 0 ds.toArray) (hg : g < w.heap.size) (hw : SameOn (fun k => k < w0.heap.size ∧ k ≠ g) w0 w) (hz : w0.heap.size ≤ w.heap.size) (hc : ds.length ≤ cap) (hm : cap ≤ maxLen) :
    SlIs (tPas e) (fun k => B ≤ k ∧ k < w.heap.size) w (.slice (some ⟨g, 0, none⟩) ds.length cap) (ds.map PV.p) := by
  refine ⟨some ⟨g, 0, none⟩, cap, g, 0, by simp, by simpa using hc, hm, fun e => (by cases e), fun k hk => ?_⟩
  have hk' : k < ds.length := by simpa using hk
  refine ⟨rfl, ⟨hB, hg⟩, hg, pvE ds[k], fun j hj => ?_, ?_⟩
  · have hj5 : j < 8 := hj
    have := (h (k * 8 + j) (by simp; omega)).1
    rw [Nat.zero_add] at this
    show w.cell? ⟨g, 0 + k * 8 + j, none⟩ = _
    rw [show 0 + k * 8 + j = k * 8 + j by omega, this, get_flatK _ _ _ _ (by simp; omega), show (k * 8 + j) / 8 = k by omega, show (k * 8 + j) % 8 = j by omega]
    rw [getElem!_pos ds.toArray k (by simpa using hk')]
    rw [List.getElem?_eq_getElem (by show j < 8; exact hj5)]
    show some (id _) = some _
    rw [getElem!_pos _ j (by show j < 8; exact hj5)]
    simp
  · rw [List.getElem_map]
    exact tPas_mk ds[k].ok ((hq _ (List.getElem_mem hk')).keep (fun q h => ⟨h.1, Nat.lt_of_lt_of_le h.2.1 hz⟩) (fun q h => hw q h.2))
end Go.Tw.Ps
namespace Go.Proofs.YtbjhemglecllmaaDoor
open Go.RowKit Go.Tw Go.Tw.Ord Go.Tw.Ps Go.Sort
/-- .. of a row of the call's own -/
theorem sortStP_anyF {e : TypeId} (l : List Pas) (g cap B : Nat) (w : World) (h : OwnF (tPas e) 24 B w (.slice (some ⟨g, 0, none⟩) l.length cap) l) (hB : B ≤ w.heap.size) (hlen : l.length < 60) :
    Calls Tryd.prog 47 #[.slice (some ⟨g, 0, none⟩) l.length cap, .func (.func 48) #[] #[]] w fun e' w' => e' = .returned (.tuple #[]) ∧ SlIs (tPas e) (fun k => B ≤ k ∧ k < w'.heap.size) w' (.slice (some ⟨g, 0, none⟩) l.length cap) (sortP l) ∧ Below B w w' := by
  obtain ⟨css, h1, h2⟩ := h
  rcases h1.2 with ⟨q, hz⟩ | ⟨g', cap', cur, q, q1, q2, q3, q4, q5, q6⟩
  · cases q
  injection q with e1 _ e3
  injection e1 with e1
  injection e1 with e1 _
  subst e1
  subst e3
  have h2F : AllIs (tPas e) (fun k => B ≤ k ∧ k < w.heap.size ∧ k ≠ g) w css l := h2.widen fun k hk => ⟨hk.1, hk.2.1, fun q => hk.2.2 (by rw [q]; rfl)⟩
  have h2' : AllIs (tPas e) (fun k => k < w.heap.size ∧ k ≠ g) w css l := h2F.widen fun k hk => hk.2
  obtain ⟨ds, hd1, hd2, hd3⟩ := AllIs.pvF (fun k hk => hk.2) h2F
  have hdl : ds.length = l.length := by rw [← hd1, List.length_map]
  have hH : HoldsK pvE 8 w g 0 ds.toArray := holdsPV q2 (fun k j hk hj => by
    have hfl := h2'.at.2 k (by omega)
    obtain ⟨cs, c1, c2, c3⟩ := hfl
    rw [hd2, List.getElem?_map, List.getElem?_eq_getElem hk] at c1
    have hcs : cs = pvE ds[k] := (Option.some.inj c1).symm
    rw [List.getD_eq_getElem?_getD, List.getElem?_eq_getElem hk, Option.getD_some, ← hcs, ← c3 j hj, ← q6, List.getElem?_take, if_pos (by show k * 8 + j < l.length * 8; omega), Array.getElem?_toList]
    rfl)
  have R : RowK pvE 8 w g 0 ds.toArray := ⟨pvE_len, pvE_one, hH, lt_of_heap q2⟩
  have hcon := sortStable_any stabL pvE pvC (pvC_cmp w g).swo 48 #[] g 0 cap ds.toArray w (enters_of Tryd.func48 (by kernel_rfl) rfl) (cmpLaysP _ _ _) R (insOkP w g cap _ ds.toArray R rfl (by simpa [hdl] using hlen)) (by simpa [hdl] using hlen)
  rw [show ds.toArray.size = l.length by simpa using hdl] at hcon
  refine hcon.mono ?_
  rintro e' w' ⟨rfl, d', hp, hs, hw⟩
  have hds : d'.size = ds.toArray.size := by rw [hp.1]
  have hperm : d'.toList.Perm ds := by
    have hp' : PermIn 0 ds.toArray.size ds.toArray d' := by rw [show ds.toArray.size = l.length by simpa using hdl]; exact hp
    simpa using pv_perm hp'
  have hsrt : d'.toList.map PV.p = sortP l := by
    refine sortP_uniq ?_ (pv_sorted (d := d') (by rw [hds, show ds.toArray.size = l.length by simpa using hdl]; exact hs))
    rw [← hd1]
    exact hperm.map _
  have hH2 := hw.holds (lt_of_heap q2) hH hds
  have hlt := hw.lt (lt_of_heap q2)
  obtain ⟨n, os, rfl⟩ := hw
  obtain ⟨s1, s2⟩ := sortWorldK_same (w0 := w) (g := g) n d' os
  have hdl' : d'.toList.length = l.length := by rw [hperm.length_eq, hdl]
  have := slP_ofF (e := e) (cap := cap) (ds := d'.toList) q1 (fun x hx => hd3 x (hperm.mem_iff.1 hx)) (by simpa using hH2) hlt s1 s2 (by rw [hdl']; exact q3) q4
  rw [hdl', hsrt] at this
  exact ⟨rfl, this, sortWorldK_belowP n d' os hB q1⟩
set_option maxRecDepth 100000 in
set_option maxHeartbeats 4000000 in
theorem sort_anyF (l : List Pas) (v : Value) (w : World) (h : SlIs (tPas eS) (· < w.heap.size) w v l) (hl : l.length < 60) (hsr : ∀ x ∈ l, x.src.length ≤ 1000000) :
    Calls Tryd.prog 21 #[v] w fun e w' => (∃ a c, e = .returned (.slice a l.length c) ∧ SlIs (tPas eS) (fun k => w.heap.size ≤ k ∧ k < w'.heap.size) w' (.slice a l.length c) (sortP l)) ∧ Below w.heap.size w w' := by
  obtain ⟨ao, cp, b, o, rfl, q1, q2, ho⟩ := pas_row h
  unfold maxLen at q2
  have HO := Lib.hid ho
  have HSR := Lib.hid hsr
  clear h ho hsr
  have hmk := hmakeP l.length (by omega)
  have o0 : OwnF (tPas eS) 24 w.heap.size (w.alloc (.cells (madeCells zPas (l.length * 8)) 24)) (.slice (some ⟨w.heap.size, 0, none⟩) 0 l.length) [] :=
    ⟨[], World.ownsRow_made w _ l.length (Nat.le_refl _) (by unfold maxLen; omega) (size_madeCells _ _), trivial⟩
  have HO0 := Lib.hid o0
  have HB0 := Lib.hid (bl_alloc (Below.refl w.heap.size w) (.cells (madeCells zPas (l.length * 8)) 24))
  clear o0
  go_enter Tryd.func21, Tryd.ntmps21
  go_wp2_with (fail)
  generalize w.alloc (.cells (madeCells zPas (l.length * 8)) 24) = w0 at HO0 HB0 ⊢
  clear hmk
  go_loopg [3, 11] l.length (fun gx sv i wr => ∃ (k g c : Nat), k + gx = l.length ∧ i = .int .i64 k ∧ sv = .slice (some ⟨g, 0, none⟩) k c ∧ OwnF (tPas eS) 24 w.heap.size wr (.slice (some ⟨g, 0, none⟩) k c) (l.take k) ∧ Below w.heap.size w wr)
  case atStart => exact ⟨0, _, _, by omega, rfl, rfl, by rw [List.take_zero]; exact HO0.out, HB0.out⟩
  case round =>
    obtain ⟨k, g, c, hk, rfl, rfl, hown, hb⟩ := hrel
    have HOW := Lib.hid hown
    have HB := Lib.hid hb
    have HLX := Lib.hid hown.own_lt
    by_cases hlt : k < l.length
    · obtain ⟨rfl, -, hbk, hok, a, n, c2, hsl, hc⟩ := HO.out wr (.of_below hb) k hlt
      have ld := load_pas (x := l[k]) Tryd.prog hc
      have k0 : (0 : Int) ≤ (k : Int) := by omega
      have k1 : (k : Int) < (l.length : Int) := by omega
      have HT := Lib.hid (show l.take (k + 1) = l.take k ++ [l[k]] from List.take_succ_eq_append_getElem hlt)
      have hxl := HSR.out _ (List.getElem_mem hlt)
      generalize l[k] = x at ld hok hsl HT hxl
      obtain ⟨A, hA⟩ : ∃ A, (pCells x (.slice a n c2)).toArray = A := ⟨_, rfl⟩
      rw [hA] at ld
      have hs : A.size = 8 := by rw [← hA]; rfl
      have h1c : ∀ u ∈ A.toList, u.oneCell' = true := by rw [← hA]; exact pCells_one
      have hbx : PBox (wr.alloc (.cells A 24)) wr.heap.size A := heap_alloc_new _ _
      have ld2 := hbx.load hA
      have hb1 : Below wr.heap.size wr (wr.alloc (.cells A 24)) := bl_alloc (Below.refl _ _) _
      have HCP := Lib.hid (copied_any x a n c2 (wr.alloc (.cells A 24)) (hsl.keep (fun q hq => Nat.lt_of_lt_of_le hq (Nat.le_trans hb.size hb1.size)) (.of_below (hb1.mono hb.size))) hxl)
      rw [hA] at HCP
      have HOK := Lib.hid hok
      have HO1 := Lib.hid (HOW.out.alloc (.cells A 24))
      have HB1 := Lib.hid (HB.out.trans (hb1.mono HB.out.size))
      have htk : (l.take k).length = k := by rw [List.length_take]; omega
      have HTK := Lib.hid htk
      have HBS := Lib.hid hb1.size
      clear hA hc hsl hok hown hb hbk hb1 hbx htk hxl
      go_wp2_with (first
        | (refine wpList_loadA _ rfl 24 rfl Tryd.isAgg24 Tryd.sizeOf24 rfl (by with_reducible assumption) ?_)
        | (refine wpList_newA 5 rfl (.tmp 14) rfl rfl 24 rfl rfl rfl Tryd.sizeOf24 Tryd.zeroValue24 rfl (by with_reducible assumption) (by with_reducible assumption) (by simp [Act.put]) rfl ?_)
        | (go_at_call 46
           with_reducible refine HCP.out.mono ?_
           rintro e w3 ⟨⟨a3, n3, c3, rfl, ho3⟩, hb3⟩
           clear ld ld2 hs
           obtain ⟨A3, hA3⟩ : ∃ A, (pCells x (.slice a3 n3 c3)).toArray = A := ⟨_, rfl⟩
           have hs3 : A3.size = 8 := by rw [← hA3]; rfl
           have HA3 := Lib.hid hA3
           have HO3 := Lib.hid (HO1.out.below hb3)
           have HF3 := Lib.hid (ho3.fresh srcFlat)
           have HB3 := Lib.hid (HB1.out.trans (hb3.mono HB1.out.size))
           rw [hA3]
           clear ho3 hb3 hA3)
        | (refine wpList_buildA _ rfl 38 rfl Tryd.underlying38 Tryd.sizeOf24 Tryd.zeroValue24 (by decide) (by decide) rfl (by with_reducible assumption) ?_)
        | (at_builtin
           refine wpList_append_oneF (.tmp 15) (.tmp 18) rfl 38 rfl slPas (y := x) (S := fun q => (wr.alloc (.cells A 24)).heap.size ≤ q ∧ q < w3.heap.size) rfl HO3.out rfl (by rw [← HA3.out]; exact tPas_mk HOK.out HF3.out) (fun q hq => ⟨by have := HB1.out.size; have := hq.1; omega, hq.2, fun e => by have := (HLX.out q e.symm).2; have := HBS.out; omega⟩) (small_bytes (k := 1001) (by rw [HTK.out]; omega) (by decide)) (by rw [HTK.out]; unfold maxLen; omega) HB3.out.size ?_
           intro v4 w4 ho4 hg4 hb4
           have HO4 := Lib.hid ho4
           have HB4 := Lib.hid (HB3.out.trans hb4)
           clear ho4 hg4 hb4))
      go_roundg (l.length - (k + 1))
      case measure => omega
      case rel =>
        have ho := HO4.out
        rw [← HT.out] at ho
        have hl2 : (l.take (k + 1)).length = k + 1 := by rw [List.length_take]; omega
        obtain ⟨g4, c4, hv4⟩ := OwnF.formS ho (by omega)
        rw [hl2] at hv4
        exact ⟨k + 1, g4, c4, by omega, by go_num, hv4, hv4 ▸ ho, HB4.out⟩
    · obtain rfl : k = l.length := by omega
      have hkl : ¬ (l.length : Int) < (l.length : Int) := by omega
      rw [List.take_length] at hown
      have HSP := Lib.hid (sortStP_anyF l g c w.heap.size wr hown HB.out.size hl)
      clear hown hb HOW HLX
      go_wp2_with (go_at_call 47
                   with_reducible refine HSP.out.mono ?_
                   rintro e w5 ⟨rfl, hs5, hb5⟩
                   have HS5 := Lib.hid hs5
                   have HB5 := Lib.hid (HB.out.trans hb5)
                   clear hs5 hb5)
      go_ret
      exact ⟨⟨_, _, rfl, HS5.out⟩, HB5.out⟩
set_option maxRecDepth 100000 in
set_option maxHeartbeats 1000000 in
theorem of_anyF (l : List Pas) (s : ByteArray) (v : Value) (w : World) (h1 : SlIs (tPas eS) (· < w.heap.size) w v l) (hl : l.length < 60) (hsr : ∀ x ∈ l, x.src.length ≤ 1000000) :
    Calls Tryd.prog 25 #[v, .string s] w fun e w' => (∃ v', e = .returned v' ∧ SlIs (tPas eS) (fun k => w.heap.size ≤ k ∧ k < w'.heap.size) w' v' (ofP l s)) ∧ Below w.heap.size w w' := by
  obtain ⟨ao, cp, g, o, rfl, q1, q2, ho⟩ := pas_row h1
  unfold maxLen at q2
  have HO := Lib.hid ho
  have HTG := Lib.hid (tags_any l _ w h1)
  have HSRC := Lib.hid hsr
  clear h1 ho hsr
  by_cases hse : s = es
  · have e1 : s.toList.isEmpty = true := by rw [emp_iff]; simpa using hse
    have HSE := Lib.hid hse
    clear hse
    go_enter Tryd.func25, Tryd.ntmps25
    go_wp2
    go_ret
    exact ⟨⟨_, rfl, by unfold ofP; rw [if_pos HSE.out]; exact SlIs.nil⟩, Below.refl _ _⟩
  · have e1 : s.toList.isEmpty = false := by rw [emp_iff]; simpa using hse
    have HE := Lib.hid (show sortP (l.filter fun x => decide (ownP l x = s)) = ofP l s from by unfold ofP; rw [if_neg hse])
    obtain ⟨P, hP⟩ : ∃ P : Pas → Bool, (fun x => decide (ownP l x = s)) = P := ⟨_, rfl⟩
    have HP := Lib.hid (fun x => (congrFun hP x).symm)
    rw [hP] at HE
    clear hse hP
    go_enter Tryd.func25, Tryd.ntmps25
    go_wp2_with (go_at_call 51
                 with_reducible refine HTG.out.mono ?_
                 rintro e wt ⟨⟨rfl, hmt⟩, hbt⟩
                 have HMT := Lib.hid hmt
                 have HBT := Lib.hid hbt
                 clear hmt hbt)
    have hmb := HMT.out.lt
    go_loopg [6, 15] l.length (fun gx v i wo => ∃ k, k + gx = l.length ∧ i = .int .i64 (k : Nat) ∧ OwnSl (tPas eS) 24 wt.heap.size wo v ((l.take k).filter P) ∧ Below wt.heap.size wt wo)
    case atStart => exact ⟨0, by omega, rfl, OwnSl.nil _ _ _ _, Below.refl _ _⟩
    case round =>
      obtain ⟨wo, rfl⟩ : ∃ wo : World, wo = wr := ⟨_, rfl⟩
      obtain ⟨k, hk, rfl, hown, hb⟩ := hrel
      have hbw : Below w.heap.size w wo := bl_trans HBT.out hb
      by_cases hlt : k < l.length
      · obtain ⟨rfl, -, hbk, hok, ax, nx, cx, hsx, hc⟩ := HO.out wo (.of_below hbw) k hlt
        have HSX := Lib.hid (show ∀ w', Below wo.heap.size wo w' → SlIs tSrc (· < w.heap.size) w' (.slice ax nx cx) l[k].src from fun w' hw => hsx.keep (fun _ h => h) (SameOn.of_below (hw.mono hbw.size)))
        have HTK1 := Lib.hid (show (l.take (k + 1)).filter P = (l.take k).filter P ++ (if P l[k] = true then [l[k]] else []) from by
          rw [List.take_succ_eq_append_getElem hlt, List.filter_append]
          congr 1
          by_cases h : P l[k] = true <;> simp [h])
        have hOl : ((l.take k).filter P).length < 1000 := Nat.lt_of_le_of_lt (List.length_filter_le _ _) (by rw [List.length_take]; omega)
        generalize l[k] = x at HTK1 hc hok HSX
        generalize (l.take k).filter P = O at HTK1 hown hOl
        obtain ⟨A, hA⟩ : ∃ A, (pCells x (.slice ax nx cx)).toArray = A := ⟨_, rfl⟩
        have HA := Lib.hid hA
        have HOK := Lib.hid hok
        have HB := Lib.hid hb
        have HOW := Lib.hid hown
        have hs1 : A.size = 8 := by rw [← hA]; rfl
        have h1c : ∀ u ∈ A.toList, u.oneCell' = true := by rw [← hA]; exact pCells_one
        have ld0 : Sem.run Tryd.prog (loadCellsFrom ⟨g, o + k * 8, none⟩ 0 8 #[]) wo = .ok A wo := by
          rw [← hA]
          exact load_pas _ fun jj hjj => hc jj hjj
        have hba : Below wo.heap.size wo (wo.alloc (.cells A 24)) := bl_alloc (Below.refl _ _) _
        have HBA := Lib.hid hba
        have n0 : PBox (wo.alloc (.cells A 24)) wo.heap.size A := heap_alloc_new _ _
        have HNB := Lib.hid n0
        have ldb := n0.load hA
        obtain ⟨c, hcc⟩ : ∃ c, ownP l x = c := ⟨_, rfl⟩
        have HBC := Lib.hid (owner_any l x (.slice ax nx cx) w.heap.size l.length (wo.alloc (.cells A 24)) ((HMT.out.below hb).alloc _))
        rw [hA, hcc] at HBC
        have HPX := Lib.hid (show P x = decide (c = s) from by rw [HP.out, hcc])
        have HSZ := Lib.hid (show w.heap.size ≤ wo.heap.size from hbw.size)
        have HWT := Lib.hid (show w.heap.size ≤ wt.heap.size from HBT.out.size)
        have k0 : (0 : Int) ≤ (k : Int) := by omega
        have k1 : (k : Int) < (l.length : Int) := by omega
        clear hA hc hok hb hown hbk hsx hcc n0 hba hbw
        by_cases d2 : c = s
        · have e2 : (c.toList == s.toList) = true := by rw [eq_str]; simpa using d2
          have HNO := Lib.hid (show (l.take (k + 1)).filter P = O ++ [x] from by rw [HTK1.out, HPX.out, if_pos (by simpa using d2)])
          clear d2
          go_wp2_with (first
            | (refine wpList_loadA _ rfl 24 rfl Tryd.isAgg24 Tryd.sizeOf24 rfl (by with_reducible assumption) ?_)
            | (refine wpList_newA 8 rfl (.tmp 18) rfl rfl 24 rfl rfl rfl Tryd.sizeOf24 Tryd.zeroValue24 rfl (by with_reducible assumption) (by with_reducible assumption) (by simp [Act.put]) rfl ?_)
            | (go_at_call 52
               with_reducible refine HBC.out.mono ?_
               rintro e w1 ⟨rfl, hg1⟩
               have HG1 := Lib.hid (bl_trans HBA.out hg1.below)
               have ld1 := PBox.load (HNB.out.step hg1.below) HA.out
               clear hg1
               have HW2 := Lib.hid (HOW.out.below HG1.out)
               have hz2 : wt.heap.size ≤ w1.heap.size := Nat.le_trans HB.out.size HG1.out.size
               have hb3 : (O.length + 1) * 112 ≤ 140737488355328 := by omega
               have hb4 : O.length + 1 ≤ maxLen := by unfold maxLen; omega
               clear ld0 ldb)
            | (refine wpList_buildA _ rfl 38 rfl Tryd.underlying38 Tryd.sizeOf24 Tryd.zeroValue24 (by decide) (by decide) rfl (by with_reducible assumption) ?_)
            | (at_builtin
               refine wpList_append_one (.tmp 24) (.tmp 26) rfl 38 rfl slPas rfl HW2.out rfl (S := (· < w.heap.size)) (y := x) (by rw [← HA.out]; exact tPas_mk HOK.out (HSX.out _ HG1.out)) (fun k hk => ⟨Nat.lt_of_lt_of_le hk (Nat.le_trans HWT.out hz2), fun e => Nat.lt_irrefl _ (Nat.lt_of_lt_of_le hk (Nat.le_trans HWT.out (HW2.out.own_lt k e.symm).1))⟩) hb3 hb4 hz2 ?_
               intro v6 w6 ho6 hg6 hb6
               have HO6 := Lib.hid ho6
               have HB6 := Lib.hid (Below.trans (bl_trans HB.out HG1.out) hb6)
               clear ho6 hg6 hb6 ld1))
          go_roundg (l.length - (k + 1))
          case measure => omega
          case rel => exact ⟨k + 1, by omega, by go_num, HNO.out ▸ HO6.out, HB6.out⟩
        · have e2 : (c.toList == s.toList) = false := by rw [eq_str]; simpa using d2
          have HNO := Lib.hid (show (l.take (k + 1)).filter P = O from by rw [HTK1.out, HPX.out]; simp [d2])
          clear d2
          go_wp2_with (first
            | (refine wpList_loadA _ rfl 24 rfl Tryd.isAgg24 Tryd.sizeOf24 rfl (by with_reducible assumption) ?_)
            | (refine wpList_newA 8 rfl (.tmp 18) rfl rfl 24 rfl rfl rfl Tryd.sizeOf24 Tryd.zeroValue24 rfl (by with_reducible assumption) (by with_reducible assumption) (by simp [Act.put]) rfl ?_)
            | (go_at_call 52
               with_reducible refine HBC.out.mono ?_
               rintro e w1 ⟨rfl, hg1⟩
               have HG1 := Lib.hid (bl_trans HBA.out hg1.below)
               have ld1 := PBox.load (HNB.out.step hg1.below) HA.out
               clear hg1))
          go_roundg (l.length - (k + 1))
          case measure => omega
          case rel => exact ⟨k + 1, by omega, by go_num, HNO.out ▸ HOW.out.below HG1.out, bl_trans HB.out HG1.out⟩
      · obtain rfl : k = l.length := by omega
        have hkl : ¬ (l.length : Int) < (l.length : Int) := by omega
        have HBW := Lib.hid hbw
        rw [List.take_length] at hown
        have HSR := Lib.hid (sort_anyF (l.filter P) _ wo hown.sl (Nat.lt_of_le_of_lt (List.length_filter_le _ _) hl) (fun x hx => HSRC.out x (List.mem_filter.1 hx).1))
        rw [HE.out] at HSR
        clear hlt hk hb hown hbw
        go_wp2_with (go_at_call 21
                     with_reducible refine HSR.out.mono ?_
                     rintro e w5 ⟨⟨a5, c5, rfl, hs5⟩, hb5⟩
                     have HS5 := Lib.hid hs5
                     have HB5 := Lib.hid (bl_trans HBW.out hb5)
                     clear hs5 hb5)
        go_ret
        exact ⟨⟨_, rfl, HS5.out.keep (fun k hk => ⟨Nat.le_trans HBW.out.size hk.1, hk.2⟩) (SameOn.refl _ _)⟩, HB5.out⟩
end Go.Proofs.YtbjhemglecllmaaDoor
