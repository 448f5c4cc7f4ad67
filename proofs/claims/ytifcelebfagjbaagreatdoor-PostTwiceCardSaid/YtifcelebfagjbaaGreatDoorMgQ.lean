/-
  Layer proofs, merged: PoFt PoL1 PoDo PoRm If PoRn.
-/
import Derived.Test.YtifcelebfagjbaaGreatDoorMgC
import Derived.Test.YtifcelebfagjbaaGreatDoorShelf
import Derived.Test.YtifcelebfagjbaaGreatDoorMgM
import Derived.Test.YtifcelebfagjbaaGreatDoorRows
import Derived.Test.YtifcelebfagjbaaGreatDoorCards
import Derived.Test.YtifcelebfagjbaaGreatDoorTie
import Derived.SevenTiedAt
import Derived.Stop.LaidErr
import Derived.Test.YtifcelebfagjbaaGreatDoorMgP
import Derived.Test.YtifcelebfagjbaaGreatDoorMgF
import Derived.Test.YtifcelebfagjbaaGreatDoorLib
import Derived.Lib.QuietBelow
import Derived.Test.YtifcelebfagjbaaGreatDoorMgK
namespace Go.Proofs.YtifcelebfagjbaaGreatDoor
open Go.RowKit Go.Tw Go.Tw.Ord Go.Tw.Po Go.Sort
theorem fmt_tab (n : Int) (hn : i64ok n) (w : World) (htab : Lib.TabIs Tryz.prog w "internal/strconv.uint64pow10" .u64 Lib.pow10Tab) {g : Nat} (hg : Tryz.prog.globalNamed "internal/strconv.uint64pow10" = some g) : FmtOk n w := fun w' hw => fmt_of n w' ((Tryz.strconv_Itoa n hn.1 hn.2 w' (Go.Joins.tab_stays hg htab hw (Nat.le_refl _))).mono fun _ _ h => ⟨h.1, h.2⟩)
end Go.Proofs.YtifcelebfagjbaaGreatDoor
namespace Go.Proofs.YtifcelebfagjbaaGreatDoor
open Go.RowKit Go.Tw Go.Tw.Ord Go.Tw.Po Go.Sort Go.ChangeShapes Go.WideShapes
theorem own0 : ownKnob Tryz.prog.godebug = none := by kernel_rfl
theorem laid0 : laidOutB Tryz.prog = true := by kernel_rfl
def laidL : List (String × DataW Unit) := [("math/bits.deBruijn32tab", Rows.laid_math_bits_deBruijn32tab), ("math/bits.deBruijn64tab", Rows.laid_math_bits_deBruijn64tab), ("internal/strconv.uint64pow10", Rows.laid_internal_strconv_uint64pow10)]
theorem door_met (os : Os) (args : Array Value) : laidMetH Tryz.prog laidL ((World.doorLaid Tryz.prog 24 os).forCall (fun _ _ => 0) ⟨#[], args, []⟩).memory :=
 laidMetH_of_parts3 (fuel := 8) (laidMet_of_run' 8 (by kernel_rfl) (by kernel_rfl)) (by kernel_rfl) (by kernel_rfl)
theorem tab_of {W : World} (h : laidMetH Tryz.prog laidL W) : Lib.TabIs Tryz.prog W "internal/strconv.uint64pow10" .u64 Lib.pow10Tab := by
 have h2 : laidMet Tryz.prog laidL W := h; have h3 := laidMet.tail (laidMet.tail h2); have e : (Rows.laid_internal_strconv_uint64pow10 : DataW Unit) = Lib.tabData .u64 Lib.pow10Tab := rfl; rw [e] at h3; exact Lib.tabIs_of_head (g := 1) (t := 227) (e := 196) (n := 20) (by kernel_rfl) (by kernel_rfl) Tryz.underlying227 Tryz.underlying196 (by kernel_rfl) (by kernel_rfl) h3
theorem fmt_all {W : World} (h : laidMetH Tryz.prog laidL W) : FmtAll W := fun n hn => fmt_tab n hn W (tab_of h) (g := 1) (by kernel_rfl)
theorem opensLine : Opens Tryz.prog 140 tSI := opens_via (fun x => ⟨x.1, x.2⟩) (fun _ => rfl) (opens_struct Tryz.underlying140 (by kernel_rfl) (.cons rfl (by kernel_rfl) (opens_str Tryz.underlying9) (.one rfl (by kernel_rfl) (opens_int Tryz.underlying3))))
theorem opensChg : Opens Tryz.prog 49 (tChg eL) :=
 opens_via (fun x => ⟨x.1, x.2.1, x.2.2.1, x.2.2.2.1, x.2.2.2.2.1, x.2.2.2.2.2.1, x.2.2.2.2.2.2⟩) (fun _ => rfl)
  (opens_struct Tryz.underlying49 (by kernel_rfl) (.cons rfl (by kernel_rfl) (opens_str Tryz.underlying9) (.cons rfl (by kernel_rfl) (opens_str Tryz.underlying9) (.cons rfl (by kernel_rfl) (opens_str Tryz.underlying9) (.cons rfl (by kernel_rfl) (opens_int Tryz.underlying3)
   (.cons rfl (by kernel_rfl) (opens_int Tryz.underlying3) (.cons rfl (by kernel_rfl) (opens_slice Tryz.underlying47 (by kernel_rfl) (by decide) opensLine (e' := eL)) (.one rfl (by kernel_rfl) (opens_int Tryz.underlying3)))))))))
theorem opensChgs {e : TypeId} : Opens Tryz.prog 52 ((tChg eL).list e) := opens_slice Tryz.underlying52 (by kernel_rfl) (by decide) opensChg
theorem awake_re {w : World} (hf : FmtAll w) (d : Nat) (os : Array Obj) : Calls Tryz.prog 11 #[] (grow (redrawn w d) os) fun e w'' => e = .returned (.bool true) ∧ ∃ p : Regrown, w'' = grow (redrawn w p.d) p.os :=
 Calls.regrown_of (awake_any _ (hf.step (below_regrown w d os)))
def ShB (l : List Chg) (e : Ending) : Prop := ∃ b, e = .returned (.bool b) ∧ (b = true → l.length ≤ 8 ∧ ∀ x ∈ l, COk x)
set_option maxRecDepth 100000 in
set_option maxHeartbeats 2000000 in
theorem short_any (l : List Chg) (v : Value) (w : World) (h : SlIs (tChg eL) (· < w.heap.size) w v l) :
  Calls Tryz.prog 10 #[v] w fun e w' => ShB l e ∧ Below w.heap.size w w' := by
 obtain ⟨ao, cap, bi, off, rfl, hl1, hm1, ho⟩ := chg_open h; unfold maxLen at hm1; have HO := Lib.hid ho; clear h ho
 go_enter Tryz.func10, Tryz.ntmps10
 go_wp2
 go_loopg [3] l.length (fun g i wr => ∃ k : Nat, k + g = l.length ∧ i = .int .i64 k ∧ Hid (∀ j (hj : j < l.length), j < k → COk l[j]) ∧ Below w.heap.size w wr)
 case atStart => exact ⟨0, by omega, rfl, Lib.hid (fun j _ h => by omega), Below.refl _ _⟩
 case round =>
  obtain ⟨k, hk, rfl, HT, hb1⟩ := hrel; have HB := Lib.hid hb1
  by_cases hlt : k < l.length
  · obtain ⟨rfl, -, hbi, -, hv, hsl, d0, d1, d2, d3, d4, d5, d6⟩ := HO.out wr (.of_below hb1) k hlt
    have k0 : (0 : Int) ≤ (k : Int) := by omega
    have k1 : (k : Int) < (l.length : Int) := by omega
    have HG1 := Lib.hid (show ∀ j (hj : j < l.length), j = k → l[j] = l[k] by rintro j hj rfl; rfl); generalize l[k] = x at *; obtain ⟨hva, hvc, _, _, rfl, -⟩ := hsl; clear hb1
    by_cases h1 : 12 < x.ls.length
    · have q1 : (12 : Int) < (x.ls.length : Int) := by omega
      go_wp2; go_ret; exact ⟨⟨_, rfl, fun h => by cases h⟩, HB.out⟩
    have q1 : decide ((12 : Int) < (x.ls.length : Int)) = false := by simp; omega
    by_cases h2 : 60 < x.key.size
    · have q2 : (60 : Int) < (x.key.size : Int) := by omega
      go_wp2; go_ret; exact ⟨⟨_, rfl, fun h => by cases h⟩, HB.out⟩
    have q2 : decide ((60 : Int) < (x.key.size : Int)) = false := by simp; omega
    by_cases h3 : 30 < x.veh.size
    · have q3 : (30 : Int) < (x.veh.size : Int) := by omega
      go_wp2; go_ret; exact ⟨⟨_, rfl, fun h => by cases h⟩, HB.out⟩
    have q3 : decide ((30 : Int) < (x.veh.size : Int)) = false := by simp; omega
    by_cases h4 : 30 < x.sys.size
    · have q4 : (30 : Int) < (x.sys.size : Int) := by omega
      go_wp2; go_ret; exact ⟨⟨_, rfl, fun h => by cases h⟩, HB.out⟩
    have q4 : decide ((30 : Int) < (x.sys.size : Int)) = false := by simp; omega
    have HX := Lib.hid (show COk x from ⟨by omega, by omega, by omega, by omega⟩); clear h1 h2 h3 h4; go_wp2
    go_roundg (l.length - (k + 1))
    case measure => omega
    case rel => exact ⟨k + 1, by omega, by go_num, Lib.hid (fun j hj h => by
     by_cases e : j = k
     · rw [HG1.out j hj e]; exact HX.out
     · exact HT.out j hj (by omega)), HB.out⟩
  · have hkd : decide ((k : Int) < (l.length : Int)) = false := by simp; omega
    have HA := Lib.hid (show ∀ x ∈ l, COk x from fun x hx => by
     obtain ⟨j, hj, rfl⟩ := List.getElem_of_mem hx
     exact HT.out j hj (by omega))
    by_cases h8 : l.length ≤ 8
    · have q8 : (l.length : Int) ≤ 8 := by omega
      have H8 := Lib.hid h8; clear h8; go_wp2; go_ret; exact ⟨⟨_, rfl, fun _ => ⟨H8.out, HA.out⟩⟩, HB.out⟩
    · have q8 : decide ((l.length : Int) ≤ 8) = false := by simp; omega
      clear h8; go_wp2; go_ret; exact ⟨⟨_, rfl, fun h => by cases h⟩, HB.out⟩
end Go.Proofs.YtifcelebfagjbaaGreatDoor
namespace Go.Tw.Po
open Go.RowKit Go.Tw Go.Sort Go.Tw.Ord
def tDeed : Ty Deed := (tInt.pair (tInt.pair (tInt.pair (tInt.pair tStr)))).via fun r => (r.op, r.at', r.t, r.c, r.name)
def dCells (r : Deed) : List Value := [.int .i64 r.op, .int .i64 r.at', .int .i64 r.t, .int .i64 r.c, .string r.name]
structure DeedOk (r : Deed) : Prop where
 op : i64ok r.op
 at' : i64ok r.at'
 t : i64ok r.t
 c : i64ok r.c
 name : r.name.size ≤ maxLen
theorem tDeed_is {S : Nat → Prop} {w : World} {cs : List Value} {r : Deed} (h : tDeed.is S w cs r) : cs = dCells r ∧ DeedOk r := by
 obtain ⟨_, _, rfl, ⟨rfl, h1⟩, _, _, rfl, ⟨rfl, h2⟩, _, _, rfl, ⟨rfl, h3⟩, _, _, rfl, ⟨rfl, h4⟩, ⟨rfl, h5⟩⟩ := h; exact ⟨rfl, ⟨h1, h2, h3, h4, h5⟩⟩
theorem deed_open {S : Nat → Prop} {w : World} {v : Value} {l : List Deed} (h : SlIs tDeed S w v l) :
  ∃ ao cap b off, v = .slice ao l.length cap ∧ l.length ≤ cap ∧ cap ≤ maxLen ∧ ∀ w', SameOn S w w' → ∀ k (_ : k < l.length), ao = some ⟨b, off, none⟩ ∧ S b ∧ b < w.heap.size ∧ DeedOk l[k] ∧
   w'.cell? ⟨b, off + k * 5, none⟩ = some (.int .i64 l[k].op) ∧ w'.cell? ⟨b, off + k * 5 + 1, none⟩ = some (.int .i64 l[k].at') ∧ w'.cell? ⟨b, off + k * 5 + 2, none⟩ = some (.int .i64 l[k].t) ∧ w'.cell? ⟨b, off + k * 5 + 3, none⟩ = some (.int .i64 l[k].c) ∧ w'.cell? ⟨b, off + k * 5 + 4, none⟩ = some (.string l[k].name) := by
 obtain ⟨ao, cap, b, off, hv, h1, h2, h3⟩ := h.openS; refine ⟨ao, cap, b, off, hv, h1, h2, fun w' hw k hk => ?_⟩; obtain ⟨g1, g2, g2', cs, g3, g4⟩ := h3 w' hw k hk; obtain ⟨rfl, g5⟩ := tDeed_is g4; have g3' : ∀ j, j < 5 → w'.cell? ⟨b, off + k * 5 + j, none⟩ = (dCells l[k])[j]? := g3; exact ⟨g1, g2, g2', g5, g3' 0 (by decide), g3' 1 (by decide), g3' 2 (by decide), g3' 3 (by decide), g3' 4 (by decide)⟩
end Go.Tw.Po
namespace Go.Proofs.YtifcelebfagjbaaGreatDoor
open Go.RowKit Go.Tw Go.Tw.Ord Go.Tw.Po Go.Sort Go.ChangeShapes Go.WideShapes
theorem opensDeed : Opens Tryz.prog 86 tDeed :=
 opens_via (fun x => ⟨x.1, x.2.1, x.2.2.1, x.2.2.2.1, x.2.2.2.2⟩) (fun _ => rfl)
  (opens_struct Tryz.underlying86 (by kernel_rfl) (.cons rfl (by kernel_rfl) (opens_int Tryz.underlying3) (.cons rfl (by kernel_rfl) (opens_int Tryz.underlying3) (.cons rfl (by kernel_rfl) (opens_int Tryz.underlying3)
   (.cons rfl (by kernel_rfl) (opens_int Tryz.underlying3) (.one rfl (by kernel_rfl) (opens_str Tryz.underlying9)))))))
theorem opensDeeds {e : TypeId} : Opens Tryz.prog 65 (tDeed.list e) := opens_slice Tryz.underlying65 (by kernel_rfl) (by decide) opensDeed
end Go.Proofs.YtifcelebfagjbaaGreatDoor
namespace Go.Tw.Po
open Go.RowKit Go.Tw Go.Sort Go.Tw.Ord Go.Proofs.YtifcelebfagjbaaGreatDoor
theorem chgC_lt {x y : Chg} : chgC x y < 0 ↔ x.tm < y.tm ∨ (x.tm = y.tm ∧ ltB x.key y.key = true) := by
 unfold chgC ltB; simp only [orL]
 by_cases h1 : x.tm < y.tm
 · have : cmpI x.tm y.tm = -1 := by unfold cmpI; rw [if_pos h1]
   rw [this]; simp [h1]
 · by_cases h2 : y.tm < x.tm
   · have : cmpI x.tm y.tm = 1 := by unfold cmpI; rw [if_neg h1, if_pos h2]
     rw [this]; simp [h1]; intro e; omega
   · have e : x.tm = y.tm := by omega
     have : cmpI x.tm y.tm = 0 := by unfold cmpI; rw [if_neg h1, if_neg h2]
     rw [this]
     by_cases h3 : ltL (codes x.key) (codes y.key) = true
     · have : cmpS x.key y.key = -1 := by unfold cmpS; rw [if_pos h3]
       rw [this]; simp [e, h3]
     · have : 0 ≤ cmpS x.key y.key := by unfold cmpS; rw [if_neg h3]; split <;> omega
       simp only [e, h3, Int.lt_irrefl]; simp
       split <;> omega
abbrev SrtC (S : List Chg) : Prop := S.Pairwise fun x y => chgC x y ≤ 0
theorem ins_sorted {S : List Chg} {x : Chg} {a : Nat} (hs : SrtC S) (h1 : ∀ j (hj : j < S.length), a ≤ j → chgC x S[j] < 0) (h2 : ∀ (h : a - 1 < S.length), 0 < a → ¬ chgC x S[a - 1] < 0) (ha : a ≤ S.length) : SrtC (S.take a ++ [x] ++ S.drop a) := by
 have hst : SrtC (S.take a) := List.Pairwise.sublist (List.take_sublist _ _) hs; have hsd : SrtC (S.drop a) := List.Pairwise.sublist (List.drop_sublist _ _) hs; have hs' := hs; rw [← List.take_append_drop a S] at hs'; have hm := (List.pairwise_append.1 hs').2.2
 have hux : ∀ u ∈ S.take a, chgC u x ≤ 0 := fun u hu => by
  obtain ⟨i, hi, rfl⟩ := List.getElem_of_mem hu; rw [List.length_take] at hi; rw [List.getElem_take]; have hl : a - 1 < S.length := by omega
  have q := h2 hl (by omega); have an := chgC_cmp.anti x S[a - 1]
  by_cases e : i = a - 1
  · subst e; omega
  · have := List.pairwise_iff_getElem.1 hs i (a - 1) (by omega) hl (by omega)
    exact chgC_cmp.trans _ _ _ this (by omega)
 unfold SrtC; rw [List.pairwise_append, List.pairwise_append]; refine ⟨⟨hst, List.pairwise_singleton _ _, fun u hu v hv => ?_⟩, hsd, fun u hu v hv => ?_⟩
 · rw [List.mem_singleton] at hv; subst hv; exact hux u hu
 · rcases List.mem_append.1 hu with hu | hu
   · exact hm u hu v hv
   · rw [List.mem_singleton] at hu
     subst hu; obtain ⟨i, hi, rfl⟩ := List.getElem_of_mem hv; rw [List.getElem_drop]; rw [List.length_drop] at hi; have := h1 (a + i) (by omega) (by omega)
     omega
theorem ins_perm {S m : List Chg} {x : Chg} {a : Nat} (hp : S.Perm m) : (S.take a ++ [x] ++ S.drop a).Perm (m ++ [x]) := by
 rw [List.append_assoc, List.singleton_append]; refine (List.perm_middle).trans ?_; rw [List.take_append_drop]; exact (hp.cons x).trans (List.perm_append_singleton x m).symm
end Go.Tw.Po
namespace Go.Tw
section
variable {P : Program} {ops : Array Oper} {C : World → Prop}
structure QW (P : Program) (ops : Array Oper) (C : World → Prop) (Q : Act → Prop) (l : List Oper) (a : Act) : Prop where
 out : wpQuiet P ops C Q l a
theorem QW.yes {Q : Act → Prop} {a : Act} {o : Oper} {rest : List Oper} (hw : Region.wanted o (yielded ops a.tmps) = true) (h : ∀ K : Act → Prop, (∀ a, QW P ops C Q rest a → K a) → o.quiet P a C K) : QW P ops C Q (o :: rest) a :=
 ⟨wpQuiet_step (fun K hK => by rw [if_pos hw]; exact h K (fun a ha => hK a ha.out))⟩
theorem QW.no {Q : Act → Prop} {a : Act} {o : Oper} {rest : List Oper} (hw : Region.wanted o (yielded ops a.tmps) = false) (h : QW P ops C Q rest (a.put o.dst undef)) : QW P ops C Q (o :: rest) a :=
 ⟨wpQuiet_step (fun K hK => by rw [if_neg (by rw [hw]; decide)]; exact hK _ h.out)⟩
theorem QW.nil {Q : Act → Prop} {a : Act} (h : Q a) : QW P ops C Q [] a := ⟨wpQuiet_nil h⟩
theorem QW.region {id : Nat} {Q : Exit → Act → World → Prop} {a : Act} {w : World} {l : List Oper} (hm : P.follows .mixedOrders = true) (hB : Region.lexB .any l.toArray = true)
  (h : QW P l.toArray (fun w' => ∃ p : Regrown, w' = Go.Sort.grow (redrawn w p.d) p.os) (fun a' => ∀ w', (∃ p : Regrown, w' = Go.Sort.grow (redrawn w p.d) p.os) → Q .normal a' w') l a) : (Code.region id l.toArray true).wp P Q a w :=
 wp_region_quiet_below hm hB h.out
end
end Go.Tw
namespace Go.Proofs.YtifcelebfagjbaaGreatDoor
open Go.RowKit Go.Tw Go.Tw.Ord Go.Tw.Po Go.Sort
set_option maxRecDepth 100000 in
set_option maxHeartbeats 8000000 in
theorem sort31_any (l : List Chg) (v : Value) (w : World) (h : SlIs (tChg eL) (· < w.heap.size) w v l) (hl : l.length ≤ 1000) (hls : ∀ x ∈ l, x.ls.length ≤ 1000) :
  Calls Tryz.prog 78 #[v] w fun e w' => (∃ v', e = .returned v' ∧ ∃ m : List Chg, m.Perm l ∧ SrtC m ∧ SlIs (tChg eL) (· < w'.heap.size) w' v' m) ∧ Below w.heap.size w w' := by
 obtain ⟨ao, cap, bi, off, rfl, h1, h2, ho⟩ := chg_open h; unfold maxLen at h2; have HO := Lib.hid ho; have HLS := Lib.hid hls; have o0 : OwnSl (tChg eL) 49 w.heap.size (w.alloc (.cells #[] 49)) (.slice (some ⟨w.heap.size, 0, none⟩) 0 0) [] := OwnSl.lit (css := []) rfl trivial (Nat.le_refl _) (by decide); have HS0 := Lib.hid o0.sl; have HB0 := Lib.hid (bl_alloc (Below.refl w.heap.size w) (.cells #[] 49)); clear h ho hls o0
 go_enter Tryz.func78, Tryz.ntmps78
 go_wp2; generalize w.alloc (.cells #[] 49) = w1 at HS0 HB0 ⊢
 go_loopg [3, 4] l.length (fun gx v i wr => ∃ (k : Nat) (S : List Chg), k + gx = l.length ∧ i = .int .i64 k ∧ SlIs (tChg eL) (· < wr.heap.size) wr v S ∧ S.Perm (l.take k) ∧ SrtC S ∧ Hid (Below w.heap.size w wr))
 case atStart => exact ⟨0, [], by omega, rfl, HS0.out, by simp, List.Pairwise.nil, HB0⟩
 case round =>
  obtain ⟨wi, rfl⟩ : ∃ wi : World, wi = wr := ⟨_, rfl⟩; obtain ⟨k, S, hk, rfl, hs, hpm, hst, HB⟩ := hrel; have hSk : S.length ≤ 1000 := by have := hpm.length_eq; rw [List.length_take] at this; omega
  have HPM0 := Lib.hid hpm; have HST := Lib.hid hst; obtain ⟨av, cv, b2, o2, rfl, q1, q2, ho2⟩ := chg_open hs; unfold maxLen at q2; have HS := Lib.hid hs; clear hs hpm hst ho2
  by_cases hlt : k < l.length
  · obtain ⟨rfl, -, hbk, hok, hv, hsl, c0, c1, c2, c3, c4, c5, c6⟩ := HO.out wi (.of_below HB.out) k hlt
    have HTK1 := Lib.hid (show l.take (k + 1) = l.take k ++ [l[k]] from List.take_succ_eq_append_getElem hlt); have hxl := HLS.out _ (List.getElem_mem hlt); generalize l[k] = x at *; have HOK := Lib.hid hok; have k0 : (0 : Int) ≤ (k : Int) := by omega
    have k1 : (k : Int) < (l.length : Int) := by omega
    obtain ⟨hva, hvc, _, _, rfl, -⟩ := id hsl; have hsl1 : SlIs tSI (· < wi.heap.size) wi (.slice hva x.ls.length hvc) x.ls := hsl.keep (fun q (hq : q < w.heap.size) => Nat.lt_of_lt_of_le hq HB.out.size) (SameOn.refl _ _); have HSL0 := Lib.hid hsl1; clear hsl hsl1 hok
    go_upto_region 6 with (fail)
    have nb := heap_alloc_new wi (.cells #[.string x.key, .string x.veh, .string x.sys, .int .i64 x.cls, .int .i64 x.tm, .slice hva x.ls.length hvc, .int .i64 x.c] 49); have HAb := Lib.hid (bl_alloc (Below.refl wi.heap.size wi) (.cells #[.string x.key, .string x.veh, .string x.sys, .int .i64 x.cls, .int .i64 x.tm, .slice hva x.ls.length hvc, .int .i64 x.c] 49)); clear c0 c1 c2 c3 c4 c5 c6; generalize wi.alloc (.cells #[.string x.key, .string x.veh, .string x.sys, .int .i64 x.cls, .int .i64 x.tm, .slice hva x.ls.length hvc, .int .i64 x.c] 49) = w2 at nb HAb ⊢; obtain ⟨gb, hgbe⟩ : ∃ gb, wi.heap.size = gb := ⟨_, rfl⟩; rw [hgbe] at nb ⊢; have hgi : wi.heap.size ≤ gb := by omega
    have HNB := Lib.hid nb; have hgb2 := lt_of_heap nb; obtain ⟨x0, x1, x2, x3, x4, x5, x6, -⟩ := blk7 nb; have o2l : OwnSl tSI 140 w2.heap.size (w2.alloc (.cells #[] 140)) (.slice (some ⟨w2.heap.size, 0, none⟩) 0 0) [] := OwnSl.lit (css := []) rfl trivial (Nat.le_refl _) (by decide); have HO2 := Lib.hid o2l; have HA2 := Lib.hid (bl_alloc (Below.refl w2.heap.size w2) (.cells #[] 140)); have HL2 := Lib.hid (show SlIs tSI (· < w2.heap.size) (w2.alloc (.cells #[] 140)) (.slice hva x.ls.length hvc) x.ls from (HSL0.out.step HAb.out).keep (fun _ h => h) (.of_below HA2.out)); have hz0 : (([] : List SI).length + x.ls.length) * 24 ≤ 140737488355328 := by simp; omega
    have hz1 : ([] : List SI).length + x.ls.length ≤ maxLen := by unfold maxLen; simp; omega
    clear nb o2l hgbe
    go_wp2_with (at_builtin
                 refine wpList_append_old (.tmp 19) (.tmp 21) rfl 47 rfl slLin rfl HO2.out rfl HL2.out hz0 hz1 (by simp) ?_; intro v3 w3 ho3 hg3 hb3; rw [List.nil_append] at ho3; have HN3 := Lib.hid (NewL.ofOwn ownSI ho3 (Nat.le_refl _)); have HB3 := Lib.hid (HA2.out.trans hb3); obtain ⟨xa, xc, rfl, -⟩ := ho3.form; have h3b := (HB3.out.block _ hgb2).trans HNB.out; obtain ⟨y0, y1, y2, y3, y4, y5, y6, yf⟩ := blk7 h3b; have hg3l : gb < w3.heap.size := Nat.lt_of_lt_of_le hgb2 HB3.out.size
                 clear ho3 hg3 hb3 h3b x0 x1 x2 x3 x4 x5 x6)
    have hX : (w3.setCell ⟨gb, 5, none⟩ (.slice xa x.ls.length xc)).heap[gb]? = some (.cells #[.string x.key, .string x.veh, .string x.sys, .int .i64 x.cls, .int .i64 x.tm, .slice xa x.ls.length xc, .int .i64 x.c] 49 (0, 0)) := heap_setCell_same _ _ _ _ _ _ ((HB3.out.block _ hgb2).trans HNB.out); have HXB := Lib.hid hX; have HWO := Lib.hid (show Below wi.heap.size wi (w3.setCell ⟨gb, 5, none⟩ (.slice xa x.ls.length xc)) from bl_set (bl_trans HAb.out HB3.out) _ hgi); have HSX := Lib.hid (show SlIs tSI (· < (w3.setCell ⟨gb, 5, none⟩ (.slice xa x.ls.length xc)).heap.size) (w3.setCell ⟨gb, 5, none⟩ (.slice xa x.ls.length xc)) (.slice xa x.ls.length xc) x.ls from HN3.out.sl.keep (fun q h => by simpa using h.2) (fun q h => Below.heap_setCell _ _ _ _ (by have := h.1; simp only; omega))); clear hX y0 y1 y2 y3 y4 y5 y6 yf; generalize w3.setCell ⟨gb, 5, none⟩ (.slice xa x.ls.length xc) = wo at HXB HWO HSX ⊢; have hgb : gb < wo.heap.size := lt_of_heap HXB.out; have hs2 := HS.out.step HWO.out; have HSL := Lib.hid hs2; obtain ⟨av', cv', b2', o2', hav, q1', q2', ho2⟩ := chg_open hs2
    injection hav with e1 e2 e3
    subst e1 e3; have HSC := Lib.hid ho2; clear hs2 ho2 e2 q1' q2' HN3 HB3 HNB
    go_loopg [6] S.length (fun g i wx => ∃ a : Nat, a ≤ g ∧ a ≤ S.length ∧ i = .int .i64 a ∧ Hid (∀ j (hj : j < S.length), a ≤ j → chgC x S[j] < 0) ∧ Hid (Below wo.heap.size wo wx))
    case atStart => exact ⟨S.length, Nat.le_refl _, Nat.le_refl _, rfl, Lib.hid (fun j hj h => by omega), Lib.hid (Below.refl _ _)⟩
    case round =>
     obtain ⟨wx, rfl⟩ : ∃ wx : World, wx = wr := ⟨_, rfl⟩; obtain ⟨a, ha, hal, rfl, HL, HG⟩ := hrel; have HQ := HXB; obtain ⟨x0, -, -, -, x4, -⟩ := blk7 ((HG.out.block _ hgb).trans HXB.out); have r0 := cell_regrown x0; have r4 := cell_regrown x4; clear x0 x4; have HDRF := Lib.hid (show ∀ w', SlIs (tChg eL) (· < w'.heap.size) w' (.slice av S.length cv) S → SlIs (tChg eL) (· < w'.heap.size) w' (.slice (if cv = a then av else Option.map (fun x => x.add (a * 7)) av) (S.length - a) (cv - a)) (S.drop a) from fun w' h => SlIs.drop (t := a) (k := a * 7) h (by omega) rfl); have HPM := Lib.hid (show (S.take a ++ [x] ++ S.drop a).Perm (l.take (k + 1)) from by rw [HTK1.out]; exact ins_perm HPM0.out)
     rcases Nat.eq_zero_or_pos a with ha0 | hap
     · have HSD := Lib.hid (ins_sorted (a := a) HST.out HL.out (fun _ h => absurd h (by omega)) hal)
       have g0 : decide (0 < a) = false := by simp; omega
       clear ha0 ha
       go_upto_region 8 with (fail)
       refine QW.region (by kernel_rfl) (by kernel_rfl) ?_
       (iterate 3 (refine QW.yes (by kernel_rfl) (fun K hK => ?_)
                   go_simp
                   (with_reducible refine hK _ ?_)
                   clear hK K))
       (iterate 31 (refine QW.no (by kernel_rfl) ?_
                    (try simp only [Act.put])
                    (try simp only [List.setIfInBounds_toArray])
                    (repeat (first | simp only [List.set_cons_succ] | simp only [List.set_cons_zero]))))
       (iterate 1 (refine QW.yes (by kernel_rfl) (fun K hK => ?_)
                   go_simp
                   (with_reducible refine hK _ ?_)
                   clear hK K))
       refine QW.nil ?_; intro _ hw'; obtain ⟨⟨dq, osq⟩, hw''⟩ := hw'; subst hw''; have HGQ := Lib.hid (bl_trans HG.out (below_regrown wx dq osq)); generalize grow (redrawn wx dq) osq = wq at HGQ ⊢; obtain ⟨wy, hwy⟩ : ∃ wy, wy = wq := ⟨_, rfl⟩; have HWY := Lib.hid (show Below wo.heap.size wo wy from by rw [hwy]; exact HGQ.out); rw [← hwy]; clear hwy; have HKY := Lib.hid (HSL.out.step HWY.out); have hXB : wy.heap[gb]? = _ := (HWY.out.block _ hgb).trans HXB.out; obtain ⟨x0, x1, x2, x3, x4, x5, x6, -⟩ := blk7 hXB
       have HXD := Lib.hid (show ∀ w', Below wy.heap.size wy w' → w'.cell? ⟨gb, 0, none⟩ = some (.string x.key) ∧ w'.cell? ⟨gb, 1, none⟩ = some (.string x.veh) ∧ w'.cell? ⟨gb, 2, none⟩ = some (.string x.sys) ∧ w'.cell? ⟨gb, 3, none⟩ = some (.int .i64 x.cls) ∧ w'.cell? ⟨gb, 4, none⟩ = some (.int .i64 x.tm) ∧ w'.cell? ⟨gb, 5, none⟩ = some (.slice xa x.ls.length xc) ∧ w'.cell? ⟨gb, 6, none⟩ = some (.int .i64 x.c) from fun w' hw' => by
        obtain ⟨z0, z1, z2, z3, z4, z5, z6, -⟩ := blk7 ((hw'.block _ (Nat.lt_of_lt_of_le hgb HWY.out.size)).trans hXB)
        exact ⟨z0, z1, z2, z3, z4, z5, z6⟩)
       have o0 : OwnSl (tChg eL) 49 wy.heap.size (wy.alloc (.cells #[] 49)) (.slice (some ⟨wy.heap.size, 0, none⟩) 0 0) [] := OwnSl.lit (css := []) rfl trivial (Nat.le_refl _) (by decide); have HO0 := Lib.hid o0; have HA0 := Lib.hid (bl_alloc (Below.refl wy.heap.size wy) (.cells #[] 49)); have hb1 : (([] : List Chg).length + (S.take a).length) * 96 ≤ 140737488355328 := by simp; omega
       have hb2 : ([] : List Chg).length + (S.take a).length ≤ maxLen := by unfold maxLen; simp; omega
       have hb3 : (([] ++ S.take a : List Chg).length + 1) * 96 ≤ 140737488355328 := by simp; omega
       have hb4 : ([] ++ S.take a : List Chg).length + 1 ≤ maxLen := by unfold maxLen; simp; omega
       have hb5 : ((([] ++ S.take a) ++ [x] : List Chg).length + (S.drop a).length) * 96 ≤ 140737488355328 := by simp; omega
       have hb6 : (([] ++ S.take a) ++ [x] : List Chg).length + (S.drop a).length ≤ maxLen := by unfold maxLen; simp; omega
       have HTK := Lib.hid (show SlIs (tChg eL) (· < wy.heap.size) wy (.slice av a cv) (S.take a) from HKY.out.take (by omega)); have HDR := Lib.hid (show SlIs (tChg eL) (· < wy.heap.size) wy (.slice (if cv = a then av else Option.map (fun x => x.add (a * 7)) av) (S.length - a) (cv - a)) (S.drop a) from HDRF.out wy HKY.out); have HSXY := Lib.hid (show ∀ w', Below wy.heap.size wy w' → SlIs tSI (· < wy.heap.size) w' (.slice xa x.ls.length xc) x.ls from fun w' hw => HSX.out.keep (fun k hk => Nat.lt_of_lt_of_le hk HWY.out.size) (SameOn.of_below (bl_trans HWY.out hw))); have j0 : (0 : Int) ≤ (a : Int) := by omega
       have j1 : (a : Int) ≤ (S.length : Int) := by omega
       clear o0 x0 x1 x2 x3 x4 x5 x6
       go_wp2_with (first
        | (at_builtin
           refine wpList_append_old (.tmp 64) (.tmp 67) rfl 52 rfl slChg rfl HO0.out rfl (HTK.out.keep (fun _ h => h) (.of_below HA0.out)) hb1 hb2 HA0.out.size ?_; intro v5 w5 ho5 hg5 hb5'; have HO5 := Lib.hid ho5; have HB5 := Lib.hid (HA0.out.trans hb5'); have hz5 := HB5.out.size; obtain ⟨x0, x1, x2, x3, x4, x5, x6⟩ := HXD.out w5 HB5.out
           clear ho5 hg5 hb5')
        | (at_builtin
           refine wpList_append_one (.tmp 69) (.tmp 71) rfl 52 rfl slChg rfl HO5.out rfl (S := (· < wy.heap.size)) (y := x) (tChg_mk HOK.out (HSXY.out _ HB5.out)) (fun k hk => ⟨Nat.lt_of_lt_of_le hk hz5, fun e => Nat.lt_irrefl _ (Nat.lt_of_lt_of_le hk (HO5.out.own_lt k e.symm).1)⟩) hb3 hb4 hz5 ?_; intro v6 w6 ho6 hg6 hb6'; have HO6 := Lib.hid ho6; have HB6 := Lib.hid (HB5.out.trans hb6'); have hz6 := HB6.out.size
           clear ho6 hg6 hb6' x0 x1 x2 x3 x4 x5 x6)
        | (at_builtin
           refine wpList_append_old (.tmp 73) (.tmp 76) rfl 52 rfl slChg rfl HO6.out rfl (HDR.out.keep (fun _ h => h) (.of_below HB6.out)) hb5 hb6 hz6 ?_; intro v7 w7 ho7 hg7 hb7'
           have HO7 := Lib.hid (show OwnSl (tChg eL) 49 wy.heap.size w7 v7 (S.take a ++ [x] ++ S.drop a) from by
            have := ho7
            simpa using this)
           have HB7 := Lib.hid (HB6.out.trans hb7')
           clear ho7 hg7 hb7'))
       all_goals
        go_roundg (l.length - (k + 1))
        case measure => omega
        case rel => exact ⟨k + 1, _, by omega, by go_num, HO7.out.sl, HPM.out, HSD.out, Lib.hid (bl_trans HB.out (bl_trans HWO.out (bl_trans HWY.out HB7.out)))⟩
     · obtain ⟨m, hma⟩ : ∃ m, a = m + 1 := ⟨a - 1, by omega⟩
       have hm : m < S.length := by omega
       obtain ⟨hav2, -, -, -, hv2, -, d0, -, -, -, d4, -⟩ := HSC.out wx (.of_below HG.out) m hm; subst hav2; have rd0 := cell_regrown d0; have rd4 := cell_regrown d4; have g0 : 0 < a := hap; have js : IntKind.i64.wrap ((a : Int) - 1) = (m : Int) := (show IntKind.i64.wrap ((a : Int) - 1) = (a : Int) - 1 from wrap_in (by omega) (by omega)).trans (by omega); have m0 : (0 : Int) ≤ (m : Int) := by omega
       have m1 : (m : Int) < (S.length : Int) := by omega
       have HSM := Lib.hid (show S[a - 1]? = some S[m] from by rw [hma, Nat.add_sub_cancel]; simp [hm]); have HMS := Lib.hid (show ∀ j (hj : j < S.length), m ≤ j → j ≠ m → chgC x S[j] < 0 from fun j hj h1 h2 => HL.out j hj (by omega)); have HMM := Lib.hid (show ∀ j (hj : j < S.length), j = m → S[j]? = some S[m] from fun j hj e => by subst e; simp [hj]); have HMA := Lib.hid hma; have hmg : m < a := by omega
       generalize S[m] = y at *; clear d0 d4 hma hap
       by_cases t1 : x.tm < y.tm
       · have HLT := Lib.hid (chgC_lt.2 (.inl t1))
         go_upto_region 8 with (fail)
         refine QW.region (by kernel_rfl) (by kernel_rfl) ?_
         (iterate 13 (refine QW.yes (by kernel_rfl) (fun K hK => ?_)
                      go_simp
                      (with_reducible refine hK _ ?_)
                      clear hK K))
         (iterate 20 (refine QW.no (by kernel_rfl) ?_
                      (try simp only [Act.put])
                      (try simp only [List.setIfInBounds_toArray])
                      (repeat (first | simp only [List.set_cons_succ] | simp only [List.set_cons_zero]))))
         (iterate 2 (refine QW.yes (by kernel_rfl) (fun K hK => ?_)
                     go_simp
                     (with_reducible refine hK _ ?_)
                     clear hK K))
         refine QW.nil ?_; intro _ hw'; obtain ⟨⟨dq, osq⟩, hw''⟩ := hw'; subst hw''; have HGQ := Lib.hid (bl_trans HG.out (below_regrown wx dq osq)); generalize grow (redrawn wx dq) osq = wq at HGQ ⊢
         have HL2 := Lib.hid (show ∀ j (hj : j < S.length), m ≤ j → chgC x S[j] < 0 from fun j hj h => by
          by_cases e : j = m
          · have := HMM.out j hj e
            rw [List.getElem?_eq_getElem hj] at this; rw [Option.some.inj this]; exact HLT.out
          · exact HMS.out j hj h e)
         have hms : m ≤ S.length := by omega
         clear rd0 rd4 r0 r4; go_wp2
         go_roundg m
         case measure => omega
         case rel => exact ⟨m, Nat.le_refl _, hms, by go_num, HL2, HGQ⟩
       · by_cases t2 : x.tm = y.tm
         · have t1' : decide (x.tm < y.tm) = false := by simpa using t1
           have t2' : (x.tm == y.tm) = true := by simpa using t2
           obtain ⟨q, hq⟩ : ∃ q, Op.bytesLess x.key.toList y.key.toList = q := ⟨_, rfl⟩; have HQ := Lib.hid (show ltB x.key y.key = q from (less_str _ _).symm.trans hq); have HTE := Lib.hid t2; have HT1 := Lib.hid t1; clear t1 t2
           cases q with
           | true =>
            have HLT := Lib.hid (chgC_lt.2 (.inr ⟨HTE.out, HQ.out⟩))
            go_upto_region 8 with (fail)
            refine QW.region (by kernel_rfl) (by kernel_rfl) ?_
            (iterate 35 (refine QW.yes (by kernel_rfl) (fun K hK => ?_)
                         go_simp
                         (with_reducible refine hK _ ?_)
                         clear hK K))
            refine QW.nil ?_; intro _ hw'; obtain ⟨⟨dq, osq⟩, hw''⟩ := hw'; subst hw''; have HGQ := Lib.hid (bl_trans HG.out (below_regrown wx dq osq)); generalize grow (redrawn wx dq) osq = wq at HGQ ⊢
            have HL2 := Lib.hid (show ∀ j (hj : j < S.length), m ≤ j → chgC x S[j] < 0 from fun j hj h => by
             by_cases e : j = m
             · have := HMM.out j hj e
               rw [List.getElem?_eq_getElem hj] at this; rw [Option.some.inj this]; exact HLT.out
             · exact HMS.out j hj h e)
            have hms : m ≤ S.length := by omega
            clear rd0 rd4 r0 r4; go_wp2
            go_roundg m
            case measure => omega
            case rel => exact ⟨m, Nat.le_refl _, hms, by go_num, HL2, HGQ⟩
           | false =>
            have HNL := Lib.hid (show ¬ chgC x y < 0 from fun h => by
             rcases chgC_lt.1 h with h | h
             · exact HT1.out h
             · rw [HQ.out] at h; exact absurd h.2 (by decide))
            have HSD := Lib.hid (ins_sorted (a := a) HST.out HL.out (fun h _ => by
             have := HSM.out; rw [List.getElem?_eq_getElem h] at this; rw [Option.some.inj this]
             exact HNL.out) hal)
            go_upto_region 8 with (fail)
            refine QW.region (by kernel_rfl) (by kernel_rfl) ?_
            (iterate 35 (refine QW.yes (by kernel_rfl) (fun K hK => ?_)
                         go_simp
                         (with_reducible refine hK _ ?_)
                         clear hK K))
            refine QW.nil ?_; intro _ hw'; obtain ⟨⟨dq, osq⟩, hw''⟩ := hw'; subst hw''; have HGQ := Lib.hid (bl_trans HG.out (below_regrown wx dq osq)); generalize grow (redrawn wx dq) osq = wq at HGQ ⊢; clear HSC HS rd0 rd4 r0 r4; generalize (some (⟨b2', o2', none⟩ : Addr)) = av2 at HSL HDRF ⊢; obtain ⟨wy, hwy⟩ : ∃ wy, wy = wq := ⟨_, rfl⟩; have HWY := Lib.hid (show Below wo.heap.size wo wy from by rw [hwy]; exact HGQ.out); rw [← hwy]; clear hwy; have HKY := Lib.hid (HSL.out.step HWY.out); have hXB : wy.heap[gb]? = _ := (HWY.out.block _ hgb).trans HXB.out; obtain ⟨x0, x1, x2, x3, x4, x5, x6, -⟩ := blk7 hXB
            have HXD := Lib.hid (show ∀ w', Below wy.heap.size wy w' → w'.cell? ⟨gb, 0, none⟩ = some (.string x.key) ∧ w'.cell? ⟨gb, 1, none⟩ = some (.string x.veh) ∧ w'.cell? ⟨gb, 2, none⟩ = some (.string x.sys) ∧ w'.cell? ⟨gb, 3, none⟩ = some (.int .i64 x.cls) ∧ w'.cell? ⟨gb, 4, none⟩ = some (.int .i64 x.tm) ∧ w'.cell? ⟨gb, 5, none⟩ = some (.slice xa x.ls.length xc) ∧ w'.cell? ⟨gb, 6, none⟩ = some (.int .i64 x.c) from fun w' hw' => by
             obtain ⟨z0, z1, z2, z3, z4, z5, z6, -⟩ := blk7 ((hw'.block _ (Nat.lt_of_lt_of_le hgb HWY.out.size)).trans hXB)
             exact ⟨z0, z1, z2, z3, z4, z5, z6⟩)
            have o0 : OwnSl (tChg eL) 49 wy.heap.size (wy.alloc (.cells #[] 49)) (.slice (some ⟨wy.heap.size, 0, none⟩) 0 0) [] := OwnSl.lit (css := []) rfl trivial (Nat.le_refl _) (by decide); have HO0 := Lib.hid o0; have HA0 := Lib.hid (bl_alloc (Below.refl wy.heap.size wy) (.cells #[] 49)); have hb1 : (([] : List Chg).length + (S.take a).length) * 96 ≤ 140737488355328 := by simp; omega
            have hb2 : ([] : List Chg).length + (S.take a).length ≤ maxLen := by unfold maxLen; simp; omega
            have hb3 : (([] ++ S.take a : List Chg).length + 1) * 96 ≤ 140737488355328 := by simp; omega
            have hb4 : ([] ++ S.take a : List Chg).length + 1 ≤ maxLen := by unfold maxLen; simp; omega
            have hb5 : ((([] ++ S.take a) ++ [x] : List Chg).length + (S.drop a).length) * 96 ≤ 140737488355328 := by simp; omega
            have hb6 : (([] ++ S.take a) ++ [x] : List Chg).length + (S.drop a).length ≤ maxLen := by unfold maxLen; simp; omega
            have HTK := Lib.hid (show SlIs (tChg eL) (· < wy.heap.size) wy (.slice av2 a cv) (S.take a) from HKY.out.take (by omega)); have HDR := Lib.hid (show SlIs (tChg eL) (· < wy.heap.size) wy (.slice (if cv = a then av2 else Option.map (fun x => x.add (a * 7)) av2) (S.length - a) (cv - a)) (S.drop a) from HDRF.out wy HKY.out); have HSXY := Lib.hid (show ∀ w', Below wy.heap.size wy w' → SlIs tSI (· < wy.heap.size) w' (.slice xa x.ls.length xc) x.ls from fun w' hw => HSX.out.keep (fun k hk => Nat.lt_of_lt_of_le hk HWY.out.size) (SameOn.of_below (bl_trans HWY.out hw))); have j0 : (0 : Int) ≤ (a : Int) := by omega
            have j1 : (a : Int) ≤ (S.length : Int) := by omega
            clear o0 x0 x1 x2 x3 x4 x5 x6
            go_wp2_with (first
             | (at_builtin
                refine wpList_append_old (.tmp 64) (.tmp 67) rfl 52 rfl slChg rfl HO0.out rfl (HTK.out.keep (fun _ h => h) (.of_below HA0.out)) hb1 hb2 HA0.out.size ?_; intro v5 w5 ho5 hg5 hb5'; have HO5 := Lib.hid ho5; have HB5 := Lib.hid (HA0.out.trans hb5'); have hz5 := HB5.out.size; obtain ⟨x0, x1, x2, x3, x4, x5, x6⟩ := HXD.out w5 HB5.out
                clear ho5 hg5 hb5')
             | (at_builtin
                refine wpList_append_one (.tmp 69) (.tmp 71) rfl 52 rfl slChg rfl HO5.out rfl (S := (· < wy.heap.size)) (y := x) (tChg_mk HOK.out (HSXY.out _ HB5.out)) (fun k hk => ⟨Nat.lt_of_lt_of_le hk hz5, fun e => Nat.lt_irrefl _ (Nat.lt_of_lt_of_le hk (HO5.out.own_lt k e.symm).1)⟩) hb3 hb4 hz5 ?_; intro v6 w6 ho6 hg6 hb6'; have HO6 := Lib.hid ho6; have HB6 := Lib.hid (HB5.out.trans hb6'); have hz6 := HB6.out.size
                clear ho6 hg6 hb6' x0 x1 x2 x3 x4 x5 x6)
             | (at_builtin
                refine wpList_append_old (.tmp 73) (.tmp 76) rfl 52 rfl slChg rfl HO6.out rfl (HDR.out.keep (fun _ h => h) (.of_below HB6.out)) hb5 hb6 hz6 ?_; intro v7 w7 ho7 hg7 hb7'
                have HO7 := Lib.hid (show OwnSl (tChg eL) 49 wy.heap.size w7 v7 (S.take a ++ [x] ++ S.drop a) from by
                 have := ho7
                 simpa using this)
                have HB7 := Lib.hid (HB6.out.trans hb7')
                clear ho7 hg7 hb7'))
            all_goals
             go_roundg (l.length - (k + 1))
             case measure => omega
             case rel => exact ⟨k + 1, _, by omega, by go_num, HO7.out.sl, HPM.out, HSD.out, Lib.hid (bl_trans HB.out (bl_trans HWO.out (bl_trans HWY.out HB7.out)))⟩
         · have t1' : decide (x.tm < y.tm) = false := by simpa using t1
           have t2' : (x.tm == y.tm) = false := by simpa using t2
           have HNL := Lib.hid (show ¬ chgC x y < 0 from fun h => by
            rcases chgC_lt.1 h with h | h
            · exact t1 h
            · exact t2 h.1)
           have HSD := Lib.hid (ins_sorted (a := a) HST.out HL.out (fun h _ => by
            have := HSM.out; rw [List.getElem?_eq_getElem h] at this; rw [Option.some.inj this]
            exact HNL.out) hal)
           clear t1 t2
           go_upto_region 8 with (fail)
           refine QW.region (by kernel_rfl) (by kernel_rfl) ?_
           (iterate 23 (refine QW.yes (by kernel_rfl) (fun K hK => ?_)
                        go_simp
                        (with_reducible refine hK _ ?_)
                        clear hK K))
           (iterate 9 (refine QW.no (by kernel_rfl) ?_
                       (try simp only [Act.put])
                       (try simp only [List.setIfInBounds_toArray])
                       (repeat (first | simp only [List.set_cons_succ] | simp only [List.set_cons_zero]))))
           (iterate 3 (refine QW.yes (by kernel_rfl) (fun K hK => ?_)
                       go_simp
                       (with_reducible refine hK _ ?_)
                       clear hK K))
           refine QW.nil ?_; intro _ hw'; obtain ⟨⟨dq, osq⟩, hw''⟩ := hw'; subst hw''; have HGQ := Lib.hid (bl_trans HG.out (below_regrown wx dq osq)); generalize grow (redrawn wx dq) osq = wq at HGQ ⊢; clear HSC HS rd0 rd4 r0 r4; generalize (some (⟨b2', o2', none⟩ : Addr)) = av2 at HSL HDRF ⊢; obtain ⟨wy, hwy⟩ : ∃ wy, wy = wq := ⟨_, rfl⟩; have HWY := Lib.hid (show Below wo.heap.size wo wy from by rw [hwy]; exact HGQ.out); rw [← hwy]; clear hwy; have HKY := Lib.hid (HSL.out.step HWY.out); have hXB : wy.heap[gb]? = _ := (HWY.out.block _ hgb).trans HXB.out; obtain ⟨x0, x1, x2, x3, x4, x5, x6, -⟩ := blk7 hXB
           have HXD := Lib.hid (show ∀ w', Below wy.heap.size wy w' → w'.cell? ⟨gb, 0, none⟩ = some (.string x.key) ∧ w'.cell? ⟨gb, 1, none⟩ = some (.string x.veh) ∧ w'.cell? ⟨gb, 2, none⟩ = some (.string x.sys) ∧ w'.cell? ⟨gb, 3, none⟩ = some (.int .i64 x.cls) ∧ w'.cell? ⟨gb, 4, none⟩ = some (.int .i64 x.tm) ∧ w'.cell? ⟨gb, 5, none⟩ = some (.slice xa x.ls.length xc) ∧ w'.cell? ⟨gb, 6, none⟩ = some (.int .i64 x.c) from fun w' hw' => by
            obtain ⟨z0, z1, z2, z3, z4, z5, z6, -⟩ := blk7 ((hw'.block _ (Nat.lt_of_lt_of_le hgb HWY.out.size)).trans hXB)
            exact ⟨z0, z1, z2, z3, z4, z5, z6⟩)
           have o0 : OwnSl (tChg eL) 49 wy.heap.size (wy.alloc (.cells #[] 49)) (.slice (some ⟨wy.heap.size, 0, none⟩) 0 0) [] := OwnSl.lit (css := []) rfl trivial (Nat.le_refl _) (by decide); have HO0 := Lib.hid o0; have HA0 := Lib.hid (bl_alloc (Below.refl wy.heap.size wy) (.cells #[] 49)); have hb1 : (([] : List Chg).length + (S.take a).length) * 96 ≤ 140737488355328 := by simp; omega
           have hb2 : ([] : List Chg).length + (S.take a).length ≤ maxLen := by unfold maxLen; simp; omega
           have hb3 : (([] ++ S.take a : List Chg).length + 1) * 96 ≤ 140737488355328 := by simp; omega
           have hb4 : ([] ++ S.take a : List Chg).length + 1 ≤ maxLen := by unfold maxLen; simp; omega
           have hb5 : ((([] ++ S.take a) ++ [x] : List Chg).length + (S.drop a).length) * 96 ≤ 140737488355328 := by simp; omega
           have hb6 : (([] ++ S.take a) ++ [x] : List Chg).length + (S.drop a).length ≤ maxLen := by unfold maxLen; simp; omega
           have HTK := Lib.hid (show SlIs (tChg eL) (· < wy.heap.size) wy (.slice av2 a cv) (S.take a) from HKY.out.take (by omega)); have HDR := Lib.hid (show SlIs (tChg eL) (· < wy.heap.size) wy (.slice (if cv = a then av2 else Option.map (fun x => x.add (a * 7)) av2) (S.length - a) (cv - a)) (S.drop a) from HDRF.out wy HKY.out); have HSXY := Lib.hid (show ∀ w', Below wy.heap.size wy w' → SlIs tSI (· < wy.heap.size) w' (.slice xa x.ls.length xc) x.ls from fun w' hw => HSX.out.keep (fun k hk => Nat.lt_of_lt_of_le hk HWY.out.size) (SameOn.of_below (bl_trans HWY.out hw))); have j0 : (0 : Int) ≤ (a : Int) := by omega
           have j1 : (a : Int) ≤ (S.length : Int) := by omega
           clear o0 x0 x1 x2 x3 x4 x5 x6
           go_wp2_with (first
            | (at_builtin
               refine wpList_append_old (.tmp 64) (.tmp 67) rfl 52 rfl slChg rfl HO0.out rfl (HTK.out.keep (fun _ h => h) (.of_below HA0.out)) hb1 hb2 HA0.out.size ?_; intro v5 w5 ho5 hg5 hb5'; have HO5 := Lib.hid ho5; have HB5 := Lib.hid (HA0.out.trans hb5'); have hz5 := HB5.out.size; obtain ⟨x0, x1, x2, x3, x4, x5, x6⟩ := HXD.out w5 HB5.out
               clear ho5 hg5 hb5')
            | (at_builtin
               refine wpList_append_one (.tmp 69) (.tmp 71) rfl 52 rfl slChg rfl HO5.out rfl (S := (· < wy.heap.size)) (y := x) (tChg_mk HOK.out (HSXY.out _ HB5.out)) (fun k hk => ⟨Nat.lt_of_lt_of_le hk hz5, fun e => Nat.lt_irrefl _ (Nat.lt_of_lt_of_le hk (HO5.out.own_lt k e.symm).1)⟩) hb3 hb4 hz5 ?_; intro v6 w6 ho6 hg6 hb6'; have HO6 := Lib.hid ho6; have HB6 := Lib.hid (HB5.out.trans hb6'); have hz6 := HB6.out.size
               clear ho6 hg6 hb6' x0 x1 x2 x3 x4 x5 x6)
            | (at_builtin
               refine wpList_append_old (.tmp 73) (.tmp 76) rfl 52 rfl slChg rfl HO6.out rfl (HDR.out.keep (fun _ h => h) (.of_below HB6.out)) hb5 hb6 hz6 ?_; intro v7 w7 ho7 hg7 hb7'
               have HO7 := Lib.hid (show OwnSl (tChg eL) 49 wy.heap.size w7 v7 (S.take a ++ [x] ++ S.drop a) from by
                have := ho7
                simpa using this)
               have HB7 := Lib.hid (HB6.out.trans hb7')
               clear ho7 hg7 hb7'))
           all_goals
            go_roundg (l.length - (k + 1))
            case measure => omega
            case rel => exact ⟨k + 1, _, by omega, by go_num, HO7.out.sl, HPM.out, HSD.out, Lib.hid (bl_trans HB.out (bl_trans HWO.out (bl_trans HWY.out HB7.out)))⟩
  · obtain rfl : k = l.length := by omega
    have hkl : ¬ (l.length : Int) < (l.length : Int) := by omega
    go_wp2; go_ret; exact ⟨⟨_, rfl, S, by have := HPM0.out; rwa [List.take_length] at this, HST.out, HS.out⟩, HB.out⟩
end Go.Proofs.YtifcelebfagjbaaGreatDoor
