/-
  Layer 37 (post): the accounts of a charge.
-/
import Derived.Test.YtifcelebfagjbaaGreatDoorMgI
import Derived.Test.YtifcelebfagjbaaGreatDoorMgA
namespace Go.Tw.Po
open Go.RowKit Go.Tw
/-- a configuration with these accounts -/
structure CfgA (A : Array Value) (va : Value) : Prop where
  size : A.size = 25
  acc : A[17]? = some va
theorem owner_short {c : List Acc} (h : CfOk c) {vh : ByteArray} {t : Int} {nm : ByteArray} (he : ownerO c vh t = some nm) : nm.size ≤ 12 := by
  unfold ownerO at he
  cases hf : c.find? fun a => a.ow.any (owB vh t) with
  | none => rw [hf] at he; cases he
  | some a =>
    rw [hf] at he
    obtain rfl := Option.some.inj he
    exact h a (List.mem_of_find?_eq_some hf)
end Go.Tw.Po
namespace Go.Proofs.YtifcelebfagjbaaGreatDoor
open Go.RowKit Go.Tw Go.Tw.Ord Go.Tw.Po Go.Sort
set_option maxRecDepth 100000 in
set_option maxHeartbeats 2000000 in
theorem accounts_any (c : List Acc) (A : Array Value) (va : Value) (x : Chg) (xa : Option Addr) (xn xc : Nat) (w : World) (hA : CfgA A va) (hc : SlIs (tAcc 138) (· < w.heap.size) w va c) (hk : CfOk c) (h1 : x.veh.size ≤ 30) (h2 : x.sys.size ≤ 30) :
    Calls Tryz.prog 70 #[.agg A, .agg #[.string x.key, .string x.veh, .string x.sys, .int .i64 x.cls, .int .i64 x.tm, .slice xa xn xc, .int .i64 x.c]] w fun e w' => e = .returned (.tuple #[.string (debC c x), .string (creC x)]) ∧ Below w.heap.size w w' := by
  have b1 := bl_alloc (bl_alloc (Below.refl w.heap.size w) (.cells A 46)) (.cells #[.string x.key, .string x.veh, .string x.sys, .int .i64 x.cls, .int .i64 x.tm, .slice xa xn xc, .int .i64 x.c] 49)
  have n0 := alloc2_0 w (.cells A 46) (.cells #[.string x.key, .string x.veh, .string x.sys, .int .i64 x.cls, .int .i64 x.tm, .slice xa xn xc, .int .i64 x.c] 49)
  have n1 := alloc2_1 w (.cells A 46) (.cells #[.string x.key, .string x.veh, .string x.sys, .int .i64 x.cls, .int .i64 x.tm, .slice xa xn xc, .int .i64 x.c] 49)
  have HOW := Lib.hid (owner_any c va x.veh x.tm _ (hc.step b1))
  obtain ⟨ao, cap, _, _, rfl, -⟩ := hc
  have c17 := cell_of_row _ _ 17 _ _ _ n0
  rw [hA.acc] at c17
  have HB1 := Lib.hid b1
  have HN1 := Lib.hid n1
  have HS := Lib.hid (fun nm he => owner_short (nm := nm) hk (vh := x.veh) (t := x.tm) he)
  have HD := Lib.hid (show debC c x = match ownerO c x.veh x.tm with | some nm => sAcc ++ nm | none => sCase ++ x.veh from rfl)
  have HC := Lib.hid (show creC x = sRev ++ orS [x.sys, sDash] from rfl)
  have HOR := Lib.hid (show ∀ (g : Nat) (w : World), w.heap[g]? = some (.cells #[.string x.sys, .string ⟨#[45]⟩] 9 (0, 0)) → Calls Tryz.prog 109 #[.slice (some ⟨g, 0, none⟩) 2 2] w fun e w' => e = .returned (.string (orS [x.sys, sDash])) ∧ w' = w from fun g w h => Or_str [x.sys, sDash] g w h (by simp))
  have hos : (orS [x.sys, sDash]).size ≤ 30 := by
    unfold orS orS orS
    split
    · show (if sDash = es then es else sDash).size ≤ 30
      split <;> decide
    · exact h2
  have z4 : ¬ (9223372036854775807 < 8 + (orS [x.sys, sDash]).size) := by omega
  generalize orS [x.sys, sDash] = os at *
  generalize debC c x = dc at *
  generalize creC x = cc at *
  generalize ownerO c x.veh x.tm = ow at *
  clear b1 n0 n1 hA hk
  have z1 : ¬ (9223372036854775807 < 5 + x.veh.size) := by omega
  cases ow with
  | none =>
    go_enter Tryz.func70, Tryz.ntmps70
    go_wp2_with (fail)
    with_reducible refine HOW.out.mono ?_
    rintro e w2 ⟨rfl, hb⟩
    have HB2 := Lib.hid (bl_trans HB1.out hb)
    have n1 := (hb.block (w.heap.size + 1) (by simp)).trans HN1.out
    obtain ⟨-, d1, d2, -, d4, -⟩ := blk7 n1
    clear hb n1 c17 HOW HN1
    go_wp2_with (go_at_call 109
                 refine (HOR.out _ _ (by exact heap_alloc_new _ _)).mono ?_
                 rintro e w3 ⟨rfl, rfl⟩)
    go_ret2
    exact ⟨by rw [HD.out, HC.out]; rfl, bl_alloc HB2.out _⟩
  | some nm =>
    have z2 := HS.out nm rfl
    have z3 : ¬ (9223372036854775807 < 8 + nm.size) := by omega
    go_enter Tryz.func70, Tryz.ntmps70
    go_wp2_with (fail)
    with_reducible refine HOW.out.mono ?_
    rintro e w2 ⟨rfl, hb⟩
    have HB2 := Lib.hid (bl_trans HB1.out hb)
    have n1 := (hb.block (w.heap.size + 1) (by simp)).trans HN1.out
    obtain ⟨-, d1, d2, -, d4, -⟩ := blk7 n1
    clear hb n1 c17 HOW HN1
    go_wp2_with (go_at_call 109
                 refine (HOR.out _ _ (by exact heap_alloc_new _ _)).mono ?_
                 rintro e w3 ⟨rfl, rfl⟩)
    go_ret2
    exact ⟨by rw [HD.out, HC.out]; rfl, bl_alloc HB2.out _⟩
end Go.Proofs.YtifcelebfagjbaaGreatDoor
/-
  Layer 37 (post): a draft: add, move, clean.
-/
namespace Go.Tw.Po
open Go.RowKit Go.Tw
/-- below B nothing but block g is changed, below g nothing at all -/
structure DK (B g : Nat) (w w' : World) : Prop where
  same : SameOn (fun k => k < B ∧ k ≠ g) w w'
  bel : Below g w w'
theorem DK.refl (B g : Nat) (w : World) : DK B g w w := ⟨SameOn.refl _ _, Below.refl _ _⟩
theorem DK.trans {B g : Nat} {a b c : World} (h : DK B g a b) (k : DK B g b c) : DK B g a c := ⟨h.same.trans k.same, h.bel.trans k.bel⟩
theorem DK.of_below {B g : Nat} {a b : World} (h : Below B a b) (hg : g ≤ B) : DK B g a b := ⟨fun k hk => h.block k hk.1, h.mono hg⟩
theorem DK.set {B g : Nat} {a b : World} (h : DK B g a b) {p : Addr} (hp : p.block = g ∨ B ≤ p.block) (hB : g < B) (u : Value) : DK B g a (b.setCell p u) :=
  ⟨h.same.set (fun (e : p.block < B ∧ p.block ≠ g) => by rcases hp with q | q <;> omega) u, h.bel.setCell (by rcases hp with q | q <;> omega) u⟩
theorem add_set {l : List SI} {a : ByteArray} {n : Int} {k : Nat} (hk : k < l.length) (he : l[k].s = a) (hb : ∀ i (hi : i < l.length), i < k → l[i].s ≠ a) : addP l a n = l.set k ⟨l[k].s, l[k].n + n⟩ := by
  induction l generalizing k with
  | nil => simp at hk
  | cons p l ih =>
    rw [addP]
    cases k with
    | zero => rw [List.getElem_cons_zero] at he; rw [if_pos he]; rfl
    | succ k =>
      have h0 := hb 0 (by simp) (by omega)
      rw [List.getElem_cons_zero] at h0
      rw [if_neg h0, ih (k := k) (by simpa using hk) (by rwa [List.getElem_cons_succ] at he) (fun i hi h => by have := hb (i + 1) (by simpa using hi) (by omega); rwa [List.getElem_cons_succ] at this)]
      rfl
theorem add_end {l : List SI} {a : ByteArray} {n : Int} (hb : ∀ i (hi : i < l.length), l[i].s ≠ a) : addP l a n = l ++ [⟨a, n⟩] := by
  induction l with
  | nil => rfl
  | cons p l ih =>
    have h0 := hb 0 (by simp)
    rw [List.getElem_cons_zero] at h0
    rw [addP, if_neg h0, ih (fun i hi => by have := hb (i + 1) (by simpa using hi); rwa [List.getElem_cons_succ] at this)]
    rfl
end Go.Tw.Po
namespace Go.Proofs.YtifcelebfagjbaaGreatDoor
open Go.RowKit Go.Tw Go.Tw.Ord Go.Tw.Po Go.Sort
/-- a draft in block g: its posts the call's own, from block B on -/
structure DW (B g : Nat) (key : ByteArray) (tm : Int) (l : List SI) (w : World) (v : Value) : Prop where
  box : w.heap[g]? = some (.cells #[.string key, .int .i64 tm, v] 105 (0, 0))
  own : NewL tSI 101 B w v l
  lt : g < B
theorem DW.below {B g : Nat} {key : ByteArray} {tm : Int} {l : List SI} {w w' : World} {v : Value} (h : DW B g key tm l w v) (hb : Below w.heap.size w w') : DW B g key tm l w' v :=
  ⟨(hb.block _ (lt_of_heap h.box)).trans h.box, h.own.below hb, h.lt⟩
set_option maxRecDepth 100000 in
set_option maxHeartbeats 2000000 in
theorem add_any (B g : Nat) (key : ByteArray) (tm : Int) (l : List SI) (v : Value) (a : ByteArray) (n : Int) (w : World) (h : DW B g key tm l w v) (hB : B ≤ w.heap.size) (hl : l.length ≤ 1000) (ha : a.size ≤ maxLen) (hm : Amt 4611686018427387904 l) (hn : -4611686018427387903 ≤ n ∧ n ≤ 4611686018427387903) :
    Calls Tryz.prog 65 #[.pointer (some ⟨g, 0, none⟩), .string a, .int .i64 n] w fun e w' => e = .returned (.tuple #[]) ∧ (∃ v', DW B g key tm (addP l a n) w' v') ∧ DK B g w w' ∧ w.heap.size ≤ w'.heap.size := by
  have HH := Lib.hid h
  obtain ⟨c0, c1, c2, cf⟩ := blk3 h.box
  obtain ⟨ao, cap, b, off, rfl, h1, h2, ho⟩ := si_open h.own.sl'
  unfold maxLen at h2
  have HO := Lib.hid ho
  have hm0 := Lib.hid hm
  have hg := lt_of_heap h.box
  clear h ho hm
  go_enter Tryz.func65, Tryz.ntmps65
  go_wp2
  go_loopg [6, 13] l.length (fun gx j i wr => ∃ (k : Nat), k + gx = l.length ∧ i = .int .i64 k ∧ Hid (∀ i (hi : i < l.length), i < k → l[i].s ≠ a) ∧ wr = w)
  case atStart => exact ⟨0, by omega, rfl, Lib.hid (fun i _ hi => by omega), rfl⟩
  case round =>
    obtain ⟨k, hk, rfl, HT, rfl⟩ := hrel
    by_cases hlt : k < l.length
    · obtain ⟨rfl, hbS, hbi, hok, d0, d1⟩ := HO.out wr (SameOn.refl _ _) k hlt
      have k0 : (0 : Int) ≤ (k : Int) := by omega
      have k1 : (k : Int) < (l.length : Int) := by omega
      by_cases he : l[k].s = a
      · have e1 : (l[k].s.toList == a.toList) = true := by rw [eq_str]; simpa using he
        obtain ⟨F, o1, o2, o3⟩ := HH.out.own
        obtain ⟨g2, cap2, cs, Fi, hv2, -, -, hel, -, hst⟩ := o1.upd o2 k hlt
        injection hv2 with q1 q2 q3
        injection q1 with q1
        injection q1 with q1 q4
        subst q1 q4 q3
        rw [Nat.zero_add] at d0 d1
        obtain ⟨rfl, rfl, -⟩ := tSI_own hel.own
        have hgb := o3 _ hel.mem
        have hAD := add_set hlt he HT.out (n := n)
        have hmk := hm0.out _ (List.getElem_mem hlt)
        have hso := hok.s
        have hw : IntKind.i64.wrap (l[k].n + n) = l[k].n + n := wrap_in (by omega) (by omega)
        have HW := Lib.hid (show DW B g key tm (addP l a n) (wr.setCell ⟨b, k * 2 + 1, none⟩ (.int .i64 (l[k].n + n))) (.slice (some ⟨b, 0, none⟩) l.length cap) from by
          obtain ⟨F', f1, f2, f3⟩ := hst wr [] (SI.mk l[k].s (l[k].n + n)) 1 (.int .i64 (l[k].n + n)) (fun _ _ _ => rfl) (by decide) (tSI_own_mk (r := SI.mk l[k].s (l[k].n + n)) ⟨hso, show -9223372036854775808 ≤ l[k].n + n ∧ l[k].n + n ≤ 9223372036854775807 by omega⟩) List.nodup_nil (fun b hb => by simp at hb)
          rw [hAD]
          refine ⟨(Below.heap_setCell _ _ _ _ (by have := HH.out.lt; simp; omega)).trans HH.out.box, ⟨F', ?_, f2, fun b hb => ?_⟩, HH.out.lt⟩
          · exact f1
          · rcases f3 b hb with q | q
            · exact o3 b q
            · simp at q)
        have hfz : ∀ j, wr.frozen? ⟨b, j, none⟩ = false := hel.free
        have HDK := Lib.hid (show DK B g wr (wr.setCell ⟨b, k * 2 + 1, none⟩ (.int .i64 (l[k].n + n))) from (DK.refl _ _ _).set (.inr hgb) HH.out.lt _)
        clear hst hel o1 o2 o3 hAD HO
        generalize l[k].s = ys at *
        generalize l[k].n = yn at *
        go_wp2
        exact bodyPost_ret (results_none rfl _ _ _) rfl ⟨rfl, ⟨_, HW.out⟩, HDK.out, by simp⟩
      · have e1 : (l[k].s.toList == a.toList) = false := by rw [eq_str]; simpa using he
        go_wp2
        go_roundg (l.length - (k + 1))
        case measure => omega
        case rel => exact ⟨k + 1, by omega, by go_num, Lib.hid (fun i hi h => by
          by_cases e : i = k
          · subst e; exact he
          · exact HT.out i hi (by omega)), rfl⟩
    · have hkd : decide ((k : Int) < (l.length : Int)) = false := by simp; omega
      have hAD := Lib.hid (add_end (n := n) fun i hi => HT.out i hi (by omega))
      have hlm : l.length ≤ 1000 := hl
      have hsi : SIOk ⟨a, n⟩ := ⟨ha, show -9223372036854775808 ≤ n ∧ n ≤ 9223372036854775807 by omega⟩
      have hnx : New tSI wr.heap.size wr (siCells ⟨a, n⟩) ⟨a, n⟩ := ⟨[], tSI_own_mk hsi, List.nodup_nil, fun b hb => by simp at hb⟩
      have HNX := Lib.hid hnx
      clear hnx hsi HO
      go_wp2_with (at_builtin
                   refine wpList_append_new (.tmp 46) (.tmp 50) rfl 54 rfl slPst rfl HH.out.own (Below.refl _ _) rfl HNX.out (by omega) (by unfold maxLen; omega) hB ?_
                   intro v' w5 hn5 hb5
                   have hf5 := hn5.form
                   rw [List.length_append] at hf5
                   obtain ⟨a5, c5, rfl, -⟩ := hf5
                   have g5 := (hb5.block g HH.out.lt).trans HH.out.box
                   obtain ⟨r0, r1, r2, rf⟩ := blk3 g5
                   have hg5 := lt_of_heap g5
                   have HN5 := Lib.hid hn5
                   have HB5 := Lib.hid hb5
                   have HG5 := Lib.hid g5
                   clear hn5 hb5 g5)
      go_end0
      have hsz := HB5.out.size
      refine ⟨rfl, ⟨_, heap_setCell_same _ _ _ _ _ _ HG5.out, ?_, HH.out.lt⟩, (DK.of_below HB5.out (Nat.le_of_lt HH.out.lt)).set (.inl rfl) HH.out.lt _, by simpa using hsz⟩
      rw [hAD.out]
      exact HN5.out.same fun j hj => Below.heap_setCell _ _ _ _ (by have := HH.out.lt; have := hj.1; simp only; omega)
end Go.Proofs.YtifcelebfagjbaaGreatDoor
/-
  Layer 37 (post): a draft: move.
-/
namespace Go.Proofs.YtifcelebfagjbaaGreatDoor
open Go.RowKit Go.Tw Go.Tw.Ord Go.Tw.Po Go.Sort
/-- a block of known cells is loaded whole -/
theorem load_blk {w : World} {b : Nat} {A : Array Value} {t : TypeId} {n : Nat} (h : w.heap[b]? = some (.cells A t (0, 0))) (hn : A.size = n) (P : Program) : Sem.run P (loadCellsFrom ⟨b, 0, none⟩ 0 n #[]) w = .ok A w := by
  have := run_loadCellsFrom_list P w ⟨b, 0, none⟩ A.toList n (by simpa using hn) fun j u hu => by
    rw [Addr.add_lit, Nat.zero_add, cell_of_row _ _ _ _ _ _ h]
    rw [← hu]; simp
  simpa using this
theorem DK.size {B g : Nat} {a b : World} (h : DK B g a b) : a.heap.size ≤ b.heap.size := h.bel.size
set_option maxRecDepth 100000 in
set_option maxHeartbeats 2000000 in
theorem move_any (c : List Acc) (A : Array Value) (va : Value) (x : Chg) (xa : Option Addr) (xn xc : Nat) (B g : Nat) (key : ByteArray) (tm : Int) (l : List SI) (v : Value) (n m : Int) (w : World) (h : DW B g key tm l w v) (hB : B ≤ w.heap.size) (hl : l.length ≤ 900) (hm : Amt m l) (hm2 : m ≤ 1152921504606846976) (hm0 : 0 ≤ m) (hn : -1125899906842624 ≤ n ∧ n ≤ 1125899906842624)
    (hA : CfgA A va) (hc : SlIs (tAcc 138) (· < w.heap.size) w va c) (hk : CfOk c) (h1 : x.veh.size ≤ 30) (h2 : x.sys.size ≤ 30) :
    Calls Tryz.prog 35 #[.pointer (some ⟨g, 0, none⟩), .agg A, .agg #[.string x.key, .string x.veh, .string x.sys, .int .i64 x.cls, .int .i64 x.tm, .slice xa xn xc, .int .i64 x.c], .int .i64 n] w fun e w' => e = .returned (.tuple #[]) ∧ (∃ v', DW B g key tm (moveP c l x n) w' v') ∧ DK B g w w' := by
  have b1 := bl_alloc (bl_alloc (Below.refl w.heap.size w) (.cells A 46)) (.cells #[.string x.key, .string x.veh, .string x.sys, .int .i64 x.cls, .int .i64 x.tm, .slice xa xn xc, .int .i64 x.c] 49)
  have n0 := alloc2_0 w (.cells A 46) (.cells #[.string x.key, .string x.veh, .string x.sys, .int .i64 x.cls, .int .i64 x.tm, .slice xa xn xc, .int .i64 x.c] 49)
  have hld := load_blk n0 hA.size Tryz.prog
  have HAC := Lib.hid (accounts_any c A va x xa xn xc _ hA (hc.step b1) hk h1 h2)
  have HM := Lib.hid (show moveP c l x n = addP (addP l (debC c x) n) (creC x) (-n) from rfl)
  have hdz : (debC c x).size ≤ maxLen := by
    unfold debC maxLen
    split
    · rename_i nm he
      have := owner_short hk he
      rw [ByteArray.size_append]
      show 8 + nm.size ≤ _
      omega
    · rw [ByteArray.size_append]
      show 5 + x.veh.size ≤ _
      omega
  have hcz : (creC x).size ≤ maxLen := by
    have hos : (orS [x.sys, sDash]).size ≤ 30 := by
      unfold orS orS orS
      split
      · show (if sDash = es then es else sDash).size ≤ 30
        split <;> decide
      · exact h2
    unfold creC maxLen
    rw [ByteArray.size_append]
    show 8 + (orS [x.sys, sDash]).size ≤ _
    omega
  generalize debC c x = d at *
  generalize creC x = r at *
  have HADD := Lib.hid (fun (l : List SI) (v : Value) (a : ByteArray) (n : Int) (w : World) (h : DW B g key tm l w v) (hB : B ≤ w.heap.size) hl ha hm hn => add_any B g key tm l v a n w h hB hl ha hm hn)
  have HH := Lib.hid h
  have HB1 := Lib.hid b1
  have hl1 := addP_len l d n
  have hamt := Lib.hid hm
  have hwr : IntKind.i64.wrap (-n) = -n := wrap_in (by omega) (by omega)
  clear b1 n0 h hm hA hc
  go_enter Tryz.func35, Tryz.ntmps35
  go_wp2_with (first | (refine wpList_loadA _ rfl 46 rfl Tryz.isAgg46 Tryz.sizeOf46 rfl (by with_reducible assumption) ?_) | fail)
  with_reducible refine HAC.out.mono ?_
  rintro e w2 ⟨rfl, hb⟩
  have HB2 := Lib.hid (bl_trans HB1.out hb)
  have HD2 := Lib.hid (HH.out.below HB2.out)
  have hs2 := HB2.out.size
  clear hb HAC hld
  go_wp2_with (fail)
  with_reducible refine (HADD.out l v d n w2 HD2.out (by omega) (by omega) hdz (hamt.out.mono (by omega)) (by omega)).mono ?_
  rintro e w3 ⟨rfl, ⟨v3, hd3⟩, hk3, hs3⟩
  have HD3 := Lib.hid hd3
  have HK3 := Lib.hid hk3
  clear hd3 hk3
  go_wp2_with (fail)
  with_reducible refine (HADD.out (addP l d n) v3 r (-n) w3 HD3.out (by omega) (by omega) hcz ((addP_amt (k := 1125899906842624) hamt.out hm0 (by omega) (by omega)).mono (by omega)) (by omega)).mono ?_
  rintro e w4 ⟨rfl, hd4, hk4, hs4⟩
  have HD4 := Lib.hid hd4
  have HK4 := Lib.hid hk4
  clear hd4 hk4
  go_wp2
  go_end0
  exact ⟨rfl, by rw [HM.out]; exact HD4.out, ((DK.of_below (HB2.out.mono hB) (Nat.le_of_lt HH.out.lt)).trans HK3.out).trans HK4.out⟩
end Go.Proofs.YtifcelebfagjbaaGreatDoor
/-
  append of a new element to a new slice, operation by operation (for regions that draw their order). No program in sight.
-/
namespace Go.Tw
open Go.RowKit
variable {α : Type} {T : Ty α} {e : TypeId} {P : Program}
theorem wp_append_Lx {F : List Nat} {w : World} {v : Value} {l : List α} {o : Oper} {a : Act} {K : Act → World → Prop} {Q : Exit → Act → World → Prop} (s y : Operand) (t : TypeId)
    (ho : o.op = .call { callee := .builtin .append, args := #[s, y], argTypes := #[t, t] }) {e' : TypeId} {bytes : Nat} (hT : SlT P t e T.sz bytes) {cs : Array Value} {F1 : List Nat} {x : α} (hs : a.eval s = v) (hown : OwnL T e F w v l) (nd : F.Nodup)
    (hy : a.eval y = .slice (some ⟨w.heap.size, 0, none⟩) 1 1) (hx : T.own F1 w cs.toList x) (nd1 : F1.Nodup) (hd : ∀ b ∈ F1, b ∉ F)
    (hbytes : (l.length + 1) * bytes ≤ 140737488355328) (h63 : l.length + 1 ≤ maxLen)
    (h : ∀ v' w' F', OwnL T e F' w' v' (l ++ [x]) → F'.Nodup → (∀ b ∈ F', b ∈ F ∨ b ∈ F1 ∨ w.heap.size < b) → (w.alloc (.cells cs e')).grownBy w' v.ownBlock → K (a.put o.dst v') w') : o.wp P a (w.alloc (.cells cs e')) K Q := by
  obtain ⟨v', w', F', hr, h2, h3, h4, h5⟩ := run_append_L (P := P) (ty := o.type) (e' := e') hT hown nd hx nd1 hd hbytes h63
  unfold Oper.wp execOp
  simp only [ho, resolve, invoke, builtin, Sem.run_bind, Sem.run_pure, Result.andThen_ok, List.map_toArray, List.map_cons, List.map_nil, hs, hy, hr]
  exact h v' w' F' h2 h3 h4 h5
/-- 'out = append(out, x)': x made since world w1 -/
theorem wp_append_new {w : World} {v : Value} {l : List α} {o : Oper} {a : Act} {K : Act → World → Prop} {Q : Exit → Act → World → Prop} (s y : Operand) (t : TypeId)
    (ho : o.op = .call { callee := .builtin .append, args := #[s, y], argTypes := #[t, t] }) {e' : TypeId} {bytes B : Nat} {w1 : World} (hT : SlT P t e T.sz bytes) {cs : Array Value} {x : α} (hs : a.eval s = v) (hown : NewL T e B w1 v l) (hb : Below w1.heap.size w1 w)
    (hy : a.eval y = .slice (some ⟨w.heap.size, 0, none⟩) 1 1) (hx : New T w1.heap.size w cs.toList x) (hbytes : (l.length + 1) * bytes ≤ 140737488355328) (h63 : l.length + 1 ≤ maxLen) (hB : B ≤ w1.heap.size)
    (h : ∀ v' w', NewL T e B w' v' (l ++ [x]) → Below B w w' → K (a.put o.dst v') w') : o.wp P a (w.alloc (.cells cs e')) K Q := by
  obtain ⟨F, h0, h2, h3⟩ := hown
  have hF := h0.lt
  have h1 : OwnL T e F w v l := h0.keep (fun b hb' => hb.block b (hF b hb'))
  obtain ⟨F1, x1, x2, x3⟩ := hx
  have hsz := hb.size
  refine wp_append_Lx s y t ho hT hs h1 h2 hy x1 x2 (fun b hb hb' => by have := x3 b hb; have := hF b hb'; omega) hbytes h63 fun v' w' F' g1 g2 g3 g4 => h v' w' ⟨F', g1, g2, fun b hb => ?_⟩ ?_
  · rcases g3 b hb with q | q | q
    · exact h3 b q
    · have := x3 b q; omega
    · omega
  · exact ((Below.refl _ _).alloc (by omega) _).trans (Below.of_grown g4 (by simp; omega) (fun k hk => h3 k (h1.blk k hk)))
end Go.Tw
