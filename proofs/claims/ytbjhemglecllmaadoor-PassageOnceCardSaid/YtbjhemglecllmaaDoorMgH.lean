/-
  Layer 17 (passage): the laws' examples. No program in sight.
-/
import Derived.Test.YtbjhemglecllmaaDoorPsCk
import Derived.Test.YtbjhemglecllmaaDoorMgA
import Derived.Test.YtbjhemglecllmaaDoorMgB
import Derived.Test.YtbjhemglecllmaaDoorMgG
import Derived.Test.YtbjhemglecllmaaDoorMgE
import Derived.Deep.RegionHeld3
import Derived.StillTailTactics
import Derived.Test.YtbjhemglecllmaaDoorLib
import Derived.Test.YtbjhemglecllmaaDoorMgF
namespace Go.Tw.Ps
open Go.RowKit Go.Tw Go.Sort Go.Tw.Ord Go.Tw.Plate Go.Proofs.YtbjhemglecllmaaDoor
def bCam : ByteArray := ⟨#[99, 97, 109]⟩
def bTag : ByteArray := ⟨#[116, 97, 103]⟩
def bT : ByteArray := ⟨#[84]⟩
def bAB : ByteArray := ⟨#[65, 66, 49]⟩
def bP : ByteArray := ⟨#[112]⟩
def bId7 : ByteArray := ⟨#[99, 97, 109, 46, 55]⟩
def bId8 : ByteArray := ⟨#[99, 97, 109, 46, 56]⟩
def exS : List Src := [⟨bCam, 7⟩, ⟨bTag, 2⟩]
def exA : Pas := ⟨bId7, bP, 5, es, bAB, 0, 900, exS⟩
def exB : Pas := ⟨bId7, bP, 4, bT, bAB, 0, 900, exS⟩
def exC : Pas := ⟨bId8, bP, 5, es, bAB, 0, 900, exS⟩
def exPt : List Pnt := [⟨bP, 1, es⟩]
theorem ex_ab : pasC exB exA ≤ 0 := by decide
theorem ex_sort : sortP [exA, exB] = [exB, exA] := (sortP_uniq (l := [exA, exB]) (l' := [exB, exA]) (List.Perm.swap _ _ _) (List.pairwise_pair.2 ex_ab)).symm
theorem ex_ownA : ownP [exA, exB] exA = bT := by decide
theorem ex_ownB : ownP [exA, exB] exB = bT := by decide
theorem ex_ofT : ofP [exA, exB] bT = [exB, exA] := by
  unfold ofP
  rw [if_neg (by decide)]
  have e : [exA, exB].filter (fun x => decide (ownP [exA, exB] x = bT)) = [exA, exB] := by
    rw [List.filter_cons_of_pos (by rw [ex_ownA]; decide), List.filter_cons_of_pos (by rw [ex_ownB]; decide)]
    rfl
  rw [e, ex_sort]
theorem ex_ofAB : ofP [exA, exB] bAB = [] := by
  unfold ofP
  rw [if_neg (by decide)]
  have e : [exA, exB].filter (fun x => decide (ownP [exA, exB] x = bAB)) = [] := by
    rw [List.filter_cons_of_neg (by rw [ex_ownA]; decide), List.filter_cons_of_neg (by rw [ex_ownB]; decide)]
    rfl
  rw [e]
  exact List.eq_nil_of_length_eq_zero (sortP_len [])
theorem ex_veh {O : List ByteArray} (h : VehSpec [exA, exB] O) : O = [bT] := by
  refine VehSpec.uniq h ⟨List.pairwise_singleton _ _, fun v => ?_⟩
  constructor
  · intro hv
    simp at hv
    subst hv
    exact ⟨by decide, exA, by simp, ex_ownA⟩
  · rintro ⟨-, x, hx, rfl⟩
    simp at hx
    rcases hx with rfl | rfl
    · rw [ex_ownA]; simp
    · rw [ex_ownB]; simp
theorem ex_ne : exA ≠ exB := by decide
theorem ex_diff1 {O : List Pas} (h : DiffSpec [exA, exB] [exB, exB] O) : O = [exA] := by
  refine DiffSpec.uniq h ⟨List.pairwise_singleton _ _, fun x => ?_⟩
  simp only [List.mem_cons, List.not_mem_nil, or_false, or_self]
  constructor
  · rintro rfl
    exact ⟨.inl rfl, ex_ne⟩
  · rintro ⟨h | h, h2⟩
    · exact h
    · exact absurd h h2
theorem ex_diff2 {O : List Pas} (h : DiffSpec [exB, exB] [exA, exB] O) : O = [] := by
  refine DiffSpec.uniq h ⟨List.Pairwise.nil, fun x => ?_⟩
  simp only [List.mem_cons, List.not_mem_nil, or_false, or_self, false_iff, not_and]
  exact fun h1 h2 => h2 (.inr h1)
instance (i : Nat) (b : UInt8) : Decidable (nb i b) := by unfold nb; infer_instance
theorem ex_name {s : ByteArray} (h : (decide (1 ≤ s.size) && decide (s.size ≤ 12) && decide (∀ i (h : i < s.size), nb i s[i])) = true) : nameC s = true := by
  simp only [Bool.and_eq_true, decide_eq_true_eq] at h
  exact name_yes ⟨h.1.1, h.1.2, h.2⟩
theorem ex_net : netE exPt = 0 := by
  unfold netE exPt
  rw [if_neg (by decide), ptsE, ptsE]
  have h : ptE [] ⟨bP, 1, es⟩ = 0 := by
    unfold ptE
    rw [ex_name (by kernel_rfl), if_neg (by decide), if_neg (by decide), if_neg (by decide), if_neg (fun q => q.1 rfl)]
  rw [h]
  rfl
theorem ex_fnd : fndB exPt bP = true := by
  rw [fnd_good ex_net]
  unfold fndC exPt
  rfl
theorem ex_ident : identC exA = 0 := ident4 (.inl rfl) (fun q => absurd q.2 (by decide)) (.inr (by decide))
theorem ex_srcs : srcsE exS = 0 := by
  unfold srcsE
  have e : srcsM exS = [srcAt exS 0, srcAt exS 1] := rfl
  have n1 : nameC bCam = true := ex_name (by kernel_rfl)
  have n2 : nameC bTag = true := ex_name (by kernel_rfl)
  have e0 : srcAt exS 0 = 0 := (srcAt_get (l := exS) (k := 0) (by decide)).trans (srcP_zero n1 (by decide))
  have e1 : srcAt exS 1 = 0 := (srcAt_get (l := exS) (k := 1) (by decide)).trans ((srcP_succ (m := 0) (y := ⟨bCam, 7⟩) rfl rfl n2 (by decide)).trans (if_neg (by decide)))
  rw [e, e0, e1]
  rfl
theorem ex_fmt : fmtS 7 = ofB [55] := by
  unfold fmtS Lib.itoa
  rw [if_neg (by decide), show (7 : Int).toNat = 7 from rfl, Lib.decDigits_one (by decide)]
  rfl
theorem ex_id {x : Pas} (h : x.src = exS) : idC x = bId7 := by
  rw [idC_cons (s := ⟨bCam, 7⟩) (by rw [h]; rfl), ex_fmt]
  rfl
theorem ex_checkA : checkC exA exPt = 0 := by
  unfold checkC
  rw [show fndB exPt exA.pt = true from ex_fnd, if_neg (by decide), if_neg (by decide), ex_ident, if_neg (by decide), if_neg (by decide), if_neg (by decide), if_neg (by decide), show srcsE exA.src = 0 from ex_srcs, if_neg (by decide), ex_id (x := exA) rfl, if_pos (show exA.id = bId7 from rfl)]
theorem ex_identC : identC exC = 0 := ident4 (.inl rfl) (fun q => absurd q.2 (by decide)) (.inr (by decide))
theorem ex_checkC : checkC exC exPt = 6 := by
  unfold checkC
  rw [show fndB exPt exC.pt = true from ex_fnd, if_neg (by decide), if_neg (by decide), ex_identC, if_neg (by decide), if_neg (by decide), if_neg (by decide), if_neg (by decide), show srcsE exC.src = 0 from ex_srcs, if_neg (by decide), if_neg (by rw [ex_id (x := exC) rfl]; decide)]
theorem ex_vehA : vehP exA = bAB := by decide
theorem ex_vehB : vehP exB = bT := by decide
end Go.Tw.Ps
/-
  Layer 17 (passage) in plain Lean: what without collects. No program in sight.
-/
namespace Go.Tw.Ps
open Go.RowKit Go.Sort Go.Tw.Ord
/-- after k passages of the sorted list S: those that are not in b, each once -/
structure NewI (S b : List Pas) (k : Nat) (O : List Pas) : Prop where
  len : O.length ≤ k
  asc : O.Pairwise fun x y => pasC x y < 0
  mem : ∀ x, x ∈ O ↔ x ∈ S.take k ∧ x ∉ b
theorem NewI.zero (S b : List Pas) : NewI S b 0 [] := ⟨Nat.le_refl _, List.Pairwise.nil, fun x => by simp⟩
theorem NewI.same {S b O : List Pas} {k : Nat} {x : Pas} (h : NewI S b k O) (e : S.take (k + 1) = S.take k ++ [x]) (hx : x ∈ S.take k ∨ x ∈ b) : NewI S b (k + 1) O := by
  refine ⟨Nat.le_succ_of_le h.len, h.asc, fun y => ?_⟩
  rw [h.mem, e, List.mem_append, List.mem_singleton]
  constructor
  · exact fun q => ⟨Or.inl q.1, q.2⟩
  · rintro ⟨q | rfl, q2⟩
    · exact ⟨q, q2⟩
    · rcases hx with hx | hx
      · exact ⟨hx, q2⟩
      · exact absurd hx q2
theorem NewI.next {S b O : List Pas} {k : Nat} (h : NewI S b k O) (hs : S.Pairwise fun x y => pasC x y ≤ 0) (hk : k < S.length) (hn : ∀ j (hj : j < S.length), j + 1 = k → S[j] ≠ S[k]) (hb : S[k] ∉ b) : NewI S b (k + 1) (O ++ [S[k]]) := by
  have e : S.take (k + 1) = S.take k ++ [S[k]] := List.take_succ_eq_append_getElem hk
  refine ⟨by rw [List.length_append]; have := h.len; simp; omega, ?_, fun y => ?_⟩
  · rw [List.pairwise_append]
    refine ⟨h.asc, List.pairwise_singleton _ _, fun u hu y hy => ?_⟩
    rw [List.mem_singleton] at hy
    subst hy
    obtain ⟨j, hj, rfl⟩ := List.getElem_of_mem ((h.mem u).1 hu).1
    rw [List.length_take] at hj
    rw [List.getElem_take]
    have hjk : j < k := by omega
    have hp := List.pairwise_iff_getElem.1 hs
    have h1 : pasC S[j] S[k] ≤ 0 := hp j k (by omega) hk hjk
    have h2 : pasC S[j] S[k] ≠ 0 := fun z => by
      have z' := pasC_zero z
      have hk1 : k - 1 < S.length := by omega
      have hne := hn (k - 1) hk1 (by omega)
      by_cases q : j = k - 1
      · subst q
        exact hne z'
      · have a1 : pasC S[j] S[k - 1] ≤ 0 := hp j (k - 1) (by omega) hk1 (by omega)
        have a2 : pasC S[k - 1] S[k] ≤ 0 := hp (k - 1) k hk1 hk (by omega)
        rw [z'] at a1
        have := pasC_cmp.anti S[k] S[k - 1]
        exact hne (pasC_zero (by omega))
    omega
  · rw [List.mem_append, List.mem_singleton, h.mem, e, List.mem_append, List.mem_singleton]
    constructor
    · rintro (q | rfl)
      · exact ⟨Or.inl q.1, q.2⟩
      · exact ⟨Or.inr rfl, hb⟩
    · rintro ⟨q | rfl, q2⟩
      · exact Or.inl ⟨q, q2⟩
      · exact Or.inr rfl
theorem NewI.done {a b S O B : List Pas} (h : NewI S B S.length O) (hS : ∀ x, x ∈ S ↔ x ∈ a) (hB : ∀ x, x ∈ B ↔ x ∈ b) : DiffSpec a b O :=
  ⟨h.asc, fun x => by rw [h.mem, List.take_length, hS, hB]⟩
end Go.Tw.Ps
/-
  A new variable, and behind other operations a whole aggregate stored into it. No program in sight.
-/
namespace Go.Tw
open Go.RowKit
section
variable {P : Program}
theorem wpList_allocZ {ops : Array Oper} {rest : List Oper} {o : Oper} {a : Act} {w : World} {Q : Exit → Act → World → Prop} (hgd : o.guard = none) (t : TypeId) (ho : o.op = .alloc t) {n : Nat} (hzv : ∃ z : Array Value, z.size = n ∧ ∀ w, (zeroValue t).run P w = .ok (.agg z) w)
    (h : ∀ z : Array Value, z.size = n → wpList P ops Q rest (a.put o.dst (.pointer (some ⟨w.heap.size, 0, none⟩))) (w.alloc (.cells z t))) : wpList P ops Q (o :: rest) a w := by
  obtain ⟨z, hz, hzv⟩ := hzv
  refine wpList_plain hgd fun _ hK => ?_
  have e1 : (execOp a.eval o).run P w = .ok (.value (.pointer (some ⟨w.heap.size, 0, none⟩))) (w.alloc (.cells z t)) := by
    unfold execOp
    simp only [ho, Instr.alloc, Sem.run_bind, Sem.run_pure, Result.andThen_ok, hzv, newVar, newRow, Value.cells, run_newObj_alloc]
  unfold Oper.wp
  rw [e1]
  exact hK _ _ (h z hz)
theorem wpList_storeN {ops : Array Oper} {rest : List Oper} {o : Oper} {a : Act} {w : World} {Q : Exit → Act → World → Prop} (p x : Operand) (hgd : o.guard = none) (t : TypeId) (ho : o.op = .store t p x) (hd : o.dst = none)
    {A z : Array Value} {n : Nat} (hsz : ∀ w, (sizeOf t).run P w = .ok n w) (hz : z.size = n) (hA : A.size = n) (h1 : ∀ v ∈ A.toList, v.oneCell' = true) (hp : a.eval p = .pointer (some ⟨w.heap.size, 0, none⟩)) (hx : a.eval x = .agg A)
    (h : wpList P ops Q rest a (w.alloc (.cells A t))) : wpList P ops Q (o :: rest) a (w.alloc (.cells z t)) := by
  refine wpList_plain hgd fun _ hK => ?_
  have e2 : (execOp a.eval o).run P (w.alloc (.cells z t)) = .ok .skip (w.alloc (.cells A t)) := by
    unfold execOp
    simp only [ho, hx, hp, Sem.run_bind, Sem.run_pure, Result.andThen_ok, run_newA hsz hz hA h1]
  unfold Oper.wp
  rw [e2]
  refine hK _ _ ?_
  rw [hd]
  exact h
end
end Go.Tw
/-
  Layer 17 (passage): the program's without, Diff.
-/
namespace Go.Proofs.YtbjhemglecllmaaDoor
open Go.RowKit Go.Tw Go.Tw.Ord Go.Tw.Ps Go.Sort
set_option maxRecDepth 100000 in
set_option maxHeartbeats 4000000 in
theorem without_any (a b : List Pas) (va vb : Value) (w : World) (h1 : SlIs (tPas eS) (· < w.heap.size) w va a) (h2 : SlIs (tPas eS) (· < w.heap.size) w vb b) (hsa : a.Pairwise fun x y => pasC x y ≤ 0) (hsb : b.Pairwise fun x y => pasC x y ≤ 0)
    (hla : a.length ≤ 900) (hlb : b.length ≤ 1000) (hsr : ∀ x ∈ a, x.src.length ≤ 1000000) :
    Calls Tryd.prog 49 #[va, vb] w fun e w' => (∃ v', e = .returned v' ∧ ∃ O, NewI a b a.length O ∧ SlIs (tPas eS) (· < w'.heap.size) w' v' O) ∧ Below w.heap.size w w' := by
  obtain ⟨ao, cp, g, o, rfl, q1, q2, ho⟩ := pas_row h1
  unfold maxLen at q2
  have HO := Lib.hid ho
  have H2 := Lib.hid h2
  have HSA := Lib.hid hsa
  have HSB := Lib.hid hsb
  have HSR := Lib.hid hsr
  have HLB := Lib.hid hlb
  obtain ⟨bo, cb, _, _, rfl, -⟩ := id h2
  have hz8 : (#[.string ByteArray.empty, .string ByteArray.empty, .int .i64 0, .string ByteArray.empty, .string ByteArray.empty, .int .i64 0, .int .i64 0, .slice none 0 0] : Array Value).size = 8 := rfl
  clear h1 ho h2 hsa hsb hsr hlb
  go_enter Tryd.func49, Tryd.ntmps49
  go_wp2
  go_loopg [4, 11] a.length (fun gx v i wo => ∃ (k : Nat) (O : List Pas), k + gx = a.length ∧ i = .int .i64 k ∧ Hid (NewI a b k O) ∧ OwnSl (tPas eS) 24 w.heap.size wo v O ∧ Below w.heap.size w wo)
  case atStart => exact ⟨0, [], by omega, rfl, Lib.hid (NewI.zero a b), OwnSl.nil _ _ _ _, Below.refl _ _⟩
  case round =>
    obtain ⟨wo, rfl⟩ : ∃ wo : World, wo = wr := ⟨_, rfl⟩
    obtain ⟨k, O, hk, rfl, HI, hown, hb⟩ := hrel
    by_cases hlt : k < a.length
    · obtain ⟨rfl, -, hbk, hok, ax, nx, cx, hsx, hc⟩ := HO.out wo (.of_below hb) k hlt
      have HSX := Lib.hid (show ∀ w', Below wo.heap.size wo w' → SlIs tSrc (· < w'.heap.size) w' (.slice ax nx cx) a[k].src from fun w' hw => hsx.keep (fun _ h => Nat.lt_of_lt_of_le h (Nat.le_trans hb.size hw.size)) (SameOn.of_below (hw.mono hb.size)))
      have HTK1 := Lib.hid (show a.take (k + 1) = a.take k ++ [a[k]] from List.take_succ_eq_append_getElem hlt)
      have hxl := HSR.out _ (List.getElem_mem hlt)
      have HNX := Lib.hid (show (∀ j (hj : j < a.length), j + 1 = k → a[j] ≠ a[k]) → a[k] ∉ b → NewI a b (k + 1) (O ++ [a[k]]) from fun h1 h2 => HI.out.next HSA.out hlt h1 h2)
      have HPV := Lib.hid (show ∀ m (hm : m < a.length), m + 1 = k → a[m] = a[k] → NewI a b (k + 1) O from fun m hm e h => HI.out.same HTK1.out (Or.inl (h ▸ List.mem_take_iff_getElem.2 ⟨m, by omega, rfl⟩)))
      generalize hxx : a[k] = x at HSX HTK1 HNX HPV hc hok hxl
      have HXX := Lib.hid hxx
      obtain ⟨A, hA⟩ : ∃ A, (pCells x (.slice ax nx cx)).toArray = A := ⟨_, rfl⟩
      have HA := Lib.hid hA
      have HOK := Lib.hid hok
      have HB := Lib.hid hb
      have HOW := Lib.hid hown
      have HLX := Lib.hid hown.own_lt
      have HOL := Lib.hid (show O.length ≤ 900 by have := HI.out.len; omega)
      have LDW := Lib.hid (show ∀ w', Below wo.heap.size wo w' → Sem.run Tryd.prog (loadCellsFrom ⟨g, o + k * 8, none⟩ 0 8 #[]) w' = .ok A w' from fun w' hw => by
        rw [← HA.out]
        exact load_pas _ fun jj hjj => (hw.cell (p := ⟨g, o + k * 8 + jj, none⟩) (Nat.lt_of_lt_of_le hbk hb.size)).trans (hc jj hjj))
      have hs1 : A.size = 8 := by rw [← hA]; rfl
      have h1c : ∀ u ∈ A.toList, u.oneCell' = true := by rw [← hA]; exact pCells_one
      have ld0 := LDW.out wo (Below.refl _ _)
      have HCP := Lib.hid (show ∀ wz, Below wo.heap.size wo wz → Calls Tryd.prog 46 #[.agg A] wz fun e w' => (∃ a' n' c', e = .returned (.agg (pCells x (.slice a' n' c')).toArray) ∧ OwnSl tSrc 54 wz.heap.size w' (.slice a' n' c') x.src) ∧ Below wz.heap.size wz w' from fun wz hz => by
        rw [← HA.out]
        exact copied_any x ax nx cx wz (HSX.out wz hz) hxl)
      have hb1 : Below wo.heap.size wo (wo.alloc (.cells A 24)) := bl_alloc (Below.refl _ _) _
      have n0 : PBox (wo.alloc (.cells A 24)) wo.heap.size A := heap_alloc_new _ _
      have HB1 := Lib.hid hb1
      have HNB := Lib.hid n0
      have k0 : (0 : Int) ≤ (k : Int) := by omega
      have k1 : (k : Int) < (a.length : Int) := by omega
      clear hA hc hok hb hown hsx hxl n0 hb1 hxx
      go_upto_region 4 with (first
                             | (refine wpList_loadA _ rfl 24 rfl Tryd.isAgg24 Tryd.sizeOf24 rfl (by with_reducible assumption) ?_)
                             | (refine wpList_allocZ rfl 24 rfl ⟨_, hz8, Tryd.zeroValue24⟩ ?_
                                intro zz hzz)
                             | (refine wpList_storeN (.tmp 6) (.tmp 15) rfl 24 rfl rfl Tryd.sizeOf24 hzz hs1 h1c rfl rfl ?_))
      clear ld0
      generalize wo.alloc (.cells A 24) = w1 at HB1 HNB ⊢
      generalize wo.heap.size = gb at HNB ⊢
      rcases Nat.eq_zero_or_pos k with hk0 | hk0
      · have kz : decide (0 < k) = false := by rw [decide_eq_false_iff_not]; omega
        have HNX := Lib.hid (fun h => HNX.out (fun j _ e => by omega) h)
        clear hk0
        refine QW.regionG (by kernel_rfl) (by kernel_rfl) ?_
        (iterate 3 (refine QW.yes (by kernel_rfl) (fun K hK => ?_)
                    go_simp
                    (with_reducible refine hK _ ?_)
                    clear hK K))
        (iterate 8 (refine QW.no (by kernel_rfl) ?_
                    (try simp only [Act.put])
                    (try simp only [List.setIfInBounds_toArray])
                    (repeat (first | simp only [List.set_cons_succ] | simp only [List.set_cons_zero]))))
        (refine QW.yes (by kernel_rfl) (fun K hK => ?_)
         go_simp
         (with_reducible refine hK _ ?_)
         clear hK K)
        refine QW.nil ?_
        intro _ hw'
        obtain ⟨⟨nq, osq⟩, hw''⟩ := hw'
        subst hw''
        have HGQ := Lib.hid (show GrB w1 (grow (w1.drewN nq) osq) from ⟨nq, osq, rfl⟩)
        generalize grow (w1.drewN nq) osq = wq at HGQ ⊢
        have HBQ := Lib.hid (bl_trans HB1.out HGQ.out.below)
        have HWQ := Lib.hid (bl_trans HB.out HBQ.out)
        have ldq := (HNB.out.step HGQ.out.below).load HA.out
        obtain ⟨dd, hdd⟩ : ∃ dd, decide (x ∈ b) = dd := ⟨_, rfl⟩
        have HBS := Lib.hid (show Calls Tryd.prog 74 #[.slice bo b.length cb, .agg A, .func (.func 48) #[] #[]] wq fun e w' => (∃ i, e = .returned (.tuple #[.int .i64 i, .bool dd])) ∧ GrB wq w' from by
          rw [← HA.out, ← hdd]
          exact bs_any b x _ _ wq (H2.out.step HWQ.out) (HSX.out wq HBQ.out) HSB.out HLB.out)
        have HDD := Lib.hid hdd
        clear hdd
        cases dd with
        | true =>
          have HN := Lib.hid (HI.out.same HTK1.out (Or.inr (of_decide_eq_true HDD.out)))
          go_wp2_with (first
            | (refine wpList_loadA _ rfl 24 rfl Tryd.isAgg24 Tryd.sizeOf24 rfl (by with_reducible assumption) ?_)
            | (go_at_call 74
               with_reducible refine HBS.out.mono ?_
               rintro e w2 ⟨⟨iq, rfl⟩, hg2⟩
               have HG2 := Lib.hid (bl_trans HBQ.out hg2.below)
               clear hg2 ldq))
          go_roundg (a.length - (k + 1))
          case measure => omega
          case rel => exact ⟨k + 1, O, by omega, by go_num, HN, HOW.out.below HG2.out, bl_trans HB.out HG2.out⟩
        | false =>
          have HN := Lib.hid (show NewI a b (k + 1) (O ++ [x]) from HNX.out (of_decide_eq_false HDD.out))
          go_wp2_with (first
            | (refine wpList_loadA _ rfl 24 rfl Tryd.isAgg24 Tryd.sizeOf24 rfl (by with_reducible assumption) ?_)
            | (go_at_call 74
               with_reducible refine HBS.out.mono ?_
               rintro e w2 ⟨⟨iq, rfl⟩, hg2⟩
               have HG2 := Lib.hid (bl_trans HBQ.out hg2.below)
               have ldr := (HNB.out.step (bl_trans HGQ.out.below hg2.below)).load HA.out
               clear hg2 ldq)
            | (go_at_call 46
               with_reducible refine (HCP.out w2 HG2.out).mono ?_
               rintro e w3 ⟨⟨a3, n3, c3, rfl, ho3⟩, hb3⟩
               clear ldr hs1
               obtain ⟨A3, hA3⟩ : ∃ A, (pCells x (.slice a3 n3 c3)).toArray = A := ⟨_, rfl⟩
               have hs3 : A3.size = 8 := by rw [← hA3]; rfl
               have HA3 := Lib.hid hA3
               have HO3 := Lib.hid ((HOW.out.below HG2.out).below hb3)
               have HF3 := Lib.hid (ho3.fresh srcFlat)
               have HB3 := Lib.hid (bl_trans (bl_trans HB.out HG2.out) hb3)
               have HZ3 := Lib.hid HG2.out.size
               rw [hA3]
               clear ho3 hb3 hA3)
            | (refine wpList_buildA _ rfl 38 rfl Tryd.underlying38 Tryd.sizeOf24 Tryd.zeroValue24 (by decide) (by decide) rfl (by with_reducible assumption) ?_)
            | (at_builtin
               refine wpList_append_one (.tmp 36) (.tmp 39) rfl 38 rfl slPas (y := x) (S := fun q => w2.heap.size ≤ q ∧ q < w3.heap.size) rfl HO3.out rfl (by rw [← HA3.out]; exact tPas_mk HOK.out HF3.out) (fun q hq => ⟨hq.2, fun e => by have := (HLX.out q e.symm).2; have := HZ3.out; omega⟩) (small_bytes (k := 1001) (by have := HOL.out; omega) (by decide)) (by have := HOL.out; unfold maxLen; omega) HB3.out.size ?_
               intro v4 w4 ho4 hg4 hb4
               have HO4 := Lib.hid ho4
               have HB4 := Lib.hid (HB3.out.trans hb4)
               clear ho4 hg4 hb4))
          go_roundg (a.length - (k + 1))
          case measure => omega
          case rel => exact ⟨k + 1, O ++ [x], by omega, by go_num, HN, HO4.out, HB4.out⟩
      · obtain ⟨m, hm⟩ : ∃ m, m + 1 = k := ⟨k - 1, by omega⟩
        have hmS : m < a.length := by omega
        have hw1 : IntKind.i64.wrap ((k : Int) - 1) = (m : Int) := by rw [wrap_in (by omega) (by omega)]; omega
        have kz' : 0 < k := by omega
        obtain ⟨rfl', -, hbm, hom, am, nm, cm, hsm, hcm⟩ := HO.out wo (.of_below HB.out) m hmS
        have HPV := Lib.hid (HPV.out m hmS hm)
        have HNX := Lib.hid (show a[m] ≠ x → x ∉ b → NewI a b (k + 1) (O ++ [x]) from fun h => HNX.out (fun j hj e => by
          obtain rfl : j = m := by omega
          exact h))
        have HSM := Lib.hid (show ∀ w', Below wo.heap.size wo w' → SlIs tSrc (· < w'.heap.size) w' (.slice am nm cm) a[m].src from fun w' hw => hsm.keep (fun _ h => Nat.lt_of_lt_of_le h (Nat.le_trans HB.out.size hw.size)) (SameOn.of_below (hw.mono HB.out.size)))
        generalize a[m] = y at HPV HNX HSM hcm
        obtain ⟨AM, hAM⟩ : ∃ A, (pCells y (.slice am nm cm)).toArray = A := ⟨_, rfl⟩
        have LD1 := Lib.hid (show ∀ n os, Sem.run Tryd.prog (loadCellsFrom ⟨g, o + m * 8, none⟩ 0 8 #[]) (grow (w1.drewN n) os) = .ok AM (grow (w1.drewN n) os) from fun n os => by
          rw [← hAM]
          exact load_pas _ fun j hj => ((bl_trans HB1.out (GrB.below ⟨n, os, rfl⟩)).cell (p := ⟨g, o + m * 8 + j, none⟩) (Nat.lt_of_lt_of_le hbm HB.out.size)).trans (hcm j hj))
        have LD2 := Lib.hid (show ∀ n os, Sem.run Tryd.prog (loadCellsFrom ⟨gb, 0, none⟩ 0 8 #[]) (grow (w1.drewN n) os) = .ok A (grow (w1.drewN n) os) from fun n os =>
          (HNB.out.step (GrB.below ⟨n, os, rfl⟩)).load HA.out)
        obtain ⟨d, hd⟩ : ∃ d, pasC y x = d := ⟨_, rfl⟩
        have HON := Lib.hid (show ∀ n os, Calls Tryd.prog 48 #[.agg AM, .agg A] (grow (w1.drewN n) os) fun e w' => e = .returned (.int .i64 d) ∧ ∃ q os', w' = grow ((grow (w1.drewN n) os).drewN q) os' from fun n os => by
          rw [← hAM, ← HA.out, ← hd]
          exact compare_any y x _ _ _ (HSM.out _ (bl_trans HB1.out (GrB.below ⟨n, os, rfl⟩))) (HSX.out _ (bl_trans HB1.out (GrB.below ⟨n, os, rfl⟩))))
        have HD := Lib.hid hd
        have m0 : (0 : Int) ≤ (m : Int) := by omega
        have m1 : (m : Int) < (a.length : Int) := by omega
        obtain ⟨r, hr⟩ : ∃ r, (d == 0) = r := ⟨_, rfl⟩
        have HR := Lib.hid hr
        clear hcm hsm hom hbm hAM hd hm rfl' hk0
        refine QW.regionG (by kernel_rfl) (by kernel_rfl) ?_
        (iterate 7 (refine QW.yes (by kernel_rfl) (fun K hK => ?_)
                    go_simp
                    (with_reducible refine hK _ ?_)
                    clear hK K))
        refine QW.yes (by kernel_rfl) (fun K hK => ?_)
        refine quiet_loadA (A := AM) rfl Tryd.isAgg24 Tryd.sizeOf24 rfl (fun w' hw' => ?_) (hK _ ?_)
        · obtain ⟨⟨nq, osq⟩, rfl⟩ := hw'
          exact LD1.out nq osq
        clear hK K
        refine QW.yes (by kernel_rfl) (fun K hK => ?_)
        refine quiet_loadA (A := A) rfl Tryd.isAgg24 Tryd.sizeOf24 rfl (fun w' hw' => ?_) (hK _ ?_)
        · obtain ⟨⟨nq, osq⟩, rfl⟩ := hw'
          exact LD2.out nq osq
        clear hK K
        (refine QW.yes (by kernel_rfl) (fun K hK => ?_)
         go_simp
         apply Exists.intro
         refine ⟨fun _ => ?_, hK _ ?_⟩
         (go_at_call 48; with_reducible exact Calls.grown_of (HON.out _ _))
         clear hK K)
        (iterate 2 (refine QW.yes (by kernel_rfl) (fun K hK => ?_)
                    go_simp
                    (with_reducible refine hK _ ?_)
                    clear hK K))
        refine QW.nil ?_
        intro _ hw'
        obtain ⟨⟨nq, osq⟩, hw''⟩ := hw'
        subst hw''
        have HGQ := Lib.hid (show GrB w1 (grow (w1.drewN nq) osq) from ⟨nq, osq, rfl⟩)
        clear LD1 LD2 HON hw1 hr
        generalize grow (w1.drewN nq) osq = wq at HGQ ⊢
        cases r with
        | true =>
          have HN := Lib.hid (HPV.out (pasC_zero (by have := HR.out; have e := HD.out; rw [beq_iff_eq] at this; omega)))
          have HG2 := Lib.hid (bl_trans HB1.out HGQ.out.below)
          go_wp2
          go_roundg (a.length - (k + 1))
          case measure => omega
          case rel => exact ⟨k + 1, O, by omega, by go_num, HN, HOW.out.below HG2.out, bl_trans HB.out HG2.out⟩
        | false =>
          have HNX := Lib.hid (HNX.out (fun e => by
            have h1 := HR.out
            have h2 := HD.out
            rw [e, pasC_self] at h2
            rw [← h2] at h1
            exact absurd h1 (by decide)))
          have HBQ := Lib.hid (bl_trans HB1.out HGQ.out.below)
          have HWQ := Lib.hid (bl_trans HB.out HBQ.out)
          have ldq := (HNB.out.step HGQ.out.below).load HA.out
          obtain ⟨dd, hdd⟩ : ∃ dd, decide (x ∈ b) = dd := ⟨_, rfl⟩
          have HBS := Lib.hid (show Calls Tryd.prog 74 #[.slice bo b.length cb, .agg A, .func (.func 48) #[] #[]] wq fun e w' => (∃ i, e = .returned (.tuple #[.int .i64 i, .bool dd])) ∧ GrB wq w' from by
            rw [← HA.out, ← hdd]
            exact bs_any b x _ _ wq (H2.out.step HWQ.out) (HSX.out wq HBQ.out) HSB.out HLB.out)
          have HDD := Lib.hid hdd
          clear hdd
          cases dd with
          | true =>
            have HN := Lib.hid (HI.out.same HTK1.out (Or.inr (of_decide_eq_true HDD.out)))
            go_wp2_with (first
              | (refine wpList_loadA _ rfl 24 rfl Tryd.isAgg24 Tryd.sizeOf24 rfl (by with_reducible assumption) ?_)
              | (go_at_call 74
                 with_reducible refine HBS.out.mono ?_
                 rintro e w2 ⟨⟨iq, rfl⟩, hg2⟩
                 have HG2 := Lib.hid (bl_trans HBQ.out hg2.below)
                 clear hg2 ldq))
            go_roundg (a.length - (k + 1))
            case measure => omega
            case rel => exact ⟨k + 1, O, by omega, by go_num, HN, HOW.out.below HG2.out, bl_trans HB.out HG2.out⟩
          | false =>
            have HN := Lib.hid (show NewI a b (k + 1) (O ++ [x]) from HNX.out (of_decide_eq_false HDD.out))
            go_wp2_with (first
              | (refine wpList_loadA _ rfl 24 rfl Tryd.isAgg24 Tryd.sizeOf24 rfl (by with_reducible assumption) ?_)
              | (go_at_call 74
                 with_reducible refine HBS.out.mono ?_
                 rintro e w2 ⟨⟨iq, rfl⟩, hg2⟩
                 have HG2 := Lib.hid (bl_trans HBQ.out hg2.below)
                 have ldr := (HNB.out.step (bl_trans HGQ.out.below hg2.below)).load HA.out
                 clear hg2 ldq)
              | (go_at_call 46
                 with_reducible refine (HCP.out w2 HG2.out).mono ?_
                 rintro e w3 ⟨⟨a3, n3, c3, rfl, ho3⟩, hb3⟩
                 clear ldr hs1
                 obtain ⟨A3, hA3⟩ : ∃ A, (pCells x (.slice a3 n3 c3)).toArray = A := ⟨_, rfl⟩
                 have hs3 : A3.size = 8 := by rw [← hA3]; rfl
                 have HA3 := Lib.hid hA3
                 have HO3 := Lib.hid ((HOW.out.below HG2.out).below hb3)
                 have HF3 := Lib.hid (ho3.fresh srcFlat)
                 have HB3 := Lib.hid (bl_trans (bl_trans HB.out HG2.out) hb3)
                 have HZ3 := Lib.hid HG2.out.size
                 rw [hA3]
                 clear ho3 hb3 hA3)
              | (refine wpList_buildA _ rfl 38 rfl Tryd.underlying38 Tryd.sizeOf24 Tryd.zeroValue24 (by decide) (by decide) rfl (by with_reducible assumption) ?_)
              | (at_builtin
                 refine wpList_append_one (.tmp 36) (.tmp 39) rfl 38 rfl slPas (y := x) (S := fun q => w2.heap.size ≤ q ∧ q < w3.heap.size) rfl HO3.out rfl (by rw [← HA3.out]; exact tPas_mk HOK.out HF3.out) (fun q hq => ⟨hq.2, fun e => by have := (HLX.out q e.symm).2; have := HZ3.out; omega⟩) (small_bytes (k := 1001) (by have := HOL.out; omega) (by decide)) (by have := HOL.out; unfold maxLen; omega) HB3.out.size ?_
                 intro v4 w4 ho4 hg4 hb4
                 have HO4 := Lib.hid ho4
                 have HB4 := Lib.hid (HB3.out.trans hb4)
                 clear ho4 hg4 hb4))
            go_roundg (a.length - (k + 1))
            case measure => omega
            case rel => exact ⟨k + 1, O ++ [x], by omega, by go_num, HN, HO4.out, HB4.out⟩
    · obtain rfl : k = a.length := by omega
      have hkl : ¬ (a.length : Int) < (a.length : Int) := by omega
      have HB := Lib.hid hb
      have HOW := Lib.hid hown.sl
      clear hlt hk hb hown
      go_wp2
      go_ret
      exact ⟨⟨_, rfl, O, HI.out, HOW.out⟩, HB.out⟩
set_option maxRecDepth 100000 in
set_option maxHeartbeats 1000000 in
theorem diff_any (a b : List Pas) (va vb : Value) (w : World) (h1 : SlIs (tPas eS) (· < w.heap.size) w va a) (h2 : SlIs (tPas eS) (· < w.heap.size) w vb b) (hla : a.length < 60) (hlb : b.length < 60) (hsa : ∀ x ∈ a, x.src.length ≤ 1000000) (hsb : ∀ x ∈ b, x.src.length ≤ 1000000) :
    Calls Tryd.prog 23 #[va, vb] w fun e w' => (∃ v1 v2, e = .returned (.tuple #[v1, v2]) ∧ ∃ O1 O2, DiffSpec a b O1 ∧ DiffSpec b a O2 ∧ O1.length ≤ a.length ∧ O2.length ≤ b.length ∧ SlIs (tPas eS) (· < w'.heap.size) w' v1 O1 ∧ SlIs (tPas eS) (· < w'.heap.size) w' v2 O2) ∧ Below w.heap.size w w' := by
  have HS1 := Lib.hid (sort_any a va w h1 hla hsa)
  have HS2 := Lib.hid (fun (w' : World) (hw : Below w.heap.size w w') => sort_any b vb w' (h2.step hw) hlb hsb)
  have HSA := Lib.hid (show ∀ x ∈ sortP a, x.src.length ≤ 1000000 from fun x hx => hsa x ((sortP_perm a).mem_iff.1 hx))
  have HSB := Lib.hid (show ∀ x ∈ sortP b, x.src.length ≤ 1000000 from fun x hx => hsb x ((sortP_perm b).mem_iff.1 hx))
  have HLA := Lib.hid (show (sortP a).length < 60 from by rw [sortP_len]; exact hla)
  have HLB := Lib.hid (show (sortP b).length < 60 from by rw [sortP_len]; exact hlb)
  obtain ⟨ao, ca, _, _, rfl, -⟩ := id h1
  obtain ⟨bo, cb, _, _, rfl, -⟩ := id h2
  clear h1 h2 hsa hsb
  go_enter Tryd.func23, Tryd.ntmps23
  go_wp2_with (first
    | (go_at_call 21
       first
       | (with_reducible refine HS1.out.mono ?_
          rintro e w1 ⟨⟨a1, c1, rfl, hs1⟩, hb1⟩
          have K1 := Lib.hid hs1
          have B1 := Lib.hid hb1
          clear hs1 hb1)
       | (with_reducible refine (HS2.out w1 B1.out).mono ?_
          rintro e w2 ⟨⟨a2, c2, rfl, hs2⟩, hb2⟩
          have K2 := Lib.hid hs2
          have J2 := Lib.hid (K1.out.step hb2)
          have B2 := Lib.hid (bl_trans B1.out hb2)
          clear hs2 hb2))
    | (go_at_call 49
       first
       | (with_reducible refine (without_any (sortP a) (sortP b) _ _ w2 J2.out K2.out (sortP_sorted a) (sortP_sorted b) (by have := HLA.out; omega) (by have := HLB.out; omega) HSA.out).mono ?_
          rintro e w3 ⟨⟨v3, rfl, O3, hn3, hs3⟩, hb3⟩
          have N3 := Lib.hid hn3
          have K3 := Lib.hid hs3
          have J3 := Lib.hid (J2.out.step hb3)
          have L3 := Lib.hid (K2.out.step hb3)
          have B3 := Lib.hid (bl_trans B2.out hb3)
          clear hn3 hs3 hb3)
       | (with_reducible refine (without_any (sortP b) (sortP a) _ _ w3 L3.out J3.out (sortP_sorted b) (sortP_sorted a) (by have := HLB.out; omega) (by have := HLA.out; omega) HSB.out).mono ?_
          rintro e w4 ⟨⟨v4, rfl, O4, hn4, hs4⟩, hb4⟩
          have N4 := Lib.hid hn4
          have K4 := Lib.hid hs4
          have J4 := Lib.hid (K3.out.step hb4)
          have B4 := Lib.hid (bl_trans B3.out hb4)
          clear hn4 hs4 hb4)))
  go_ret2
  have e1 := sortP_len a
  have e2 := sortP_len b
  exact ⟨⟨_, _, rfl, O3, O4, N3.out.done (fun x => (sortP_perm a).mem_iff) (fun x => (sortP_perm b).mem_iff), N4.out.done (fun x => (sortP_perm b).mem_iff) (fun x => (sortP_perm a).mem_iff), by have := N3.out.len; omega, by have := N4.out.len; omega, J4.out, K4.out⟩, B4.out⟩
end Go.Proofs.YtbjhemglecllmaaDoor
/-
  A region that draws its order: loads are taken first as in the kit's held law, but the condition on the world need hold only behind the first n operations: what stands from n on (a store at the end) waits for all of them. No program in sight.
-/
namespace Go.Tw
open Go.RowKit
section
variable {P : Program} {ops : Array Oper} {Q : Exit → Act → World → Prop} {md : Region.Mode} {S : World → Prop} {n : Nat}
theorem wanted_then {A B : Prop} (hA : A) : if true = true then A else B := by rw [if_pos rfl]; exact hA
theorem wanted_else {A B : Prop} (hB : B) : if false = true then A else B := by rw [if_neg (by decide)]; exact hB
/-- whatever order is picked, and S holds behind each of the first n -/
def wpAnyE (P : Program) (md : Region.Mode) (ops : Array Oper) (Q : Exit → Act → World → Prop) (n : Nat) (S : World → Prop) : Nat → Array Bool → Act → World → Prop
  | 0, listed, a, w => Region.ready md ops listed = [] ∧ Q .normal a w
  | fuel + 1, listed, a, w =>
    (Region.ready md ops listed = [] → Q .normal a w) ∧
    ∀ i ∈ Region.ready md ops listed, wpOp P ops Q i (fun a' w' => (i < n → S w') ∧ wpAnyE P md ops Q n S fuel (listed.setIfInBounds i true) a' w') a w
theorem wpAny_of_E : ∀ (fuel : Nat) (listed : Array Bool) (a : Act) (w : World), wpAnyE P md ops Q n S fuel listed a w → wpAny P md ops Q fuel listed a w
  | 0, _, _, _, h => h
  | fuel + 1, _, _, _, h => ⟨h.1, fun i hi => wpOp_mono (fun a' w' h' => wpAny_of_E fuel _ a' w' h'.2) (h.2 i hi)⟩
theorem wpAnyE_first {i : Nat} {oi : Oper} {v : Value} (hi : ops[i]? = some oi) (hin : i < n) (hn : n < ops.size) (hs : Region.sinkB md ops n = true) (hc : Region.chainB md ops n = true) (hsel : ∀ (j : Nat) (o : Oper) cs b, ops[j]? = some o → o.op ≠ .select cs b)
    (hQ : ∀ c a w, Q (.panic c) (a.put oi.dst v) w → Q (.panic c) a w) :
    ∀ (fuel : Nat) (listed : Array Bool) (a : Act) (w : World), HeadInv md ops n listed →
      (∀ j oj, ops[j]? = some oj → j ≠ i → listed.getD j true = false → (∀ e ∈ oj.after, Region.binds md e = true → e.on ≠ i) → oi.apart ops oj = true) →
      i ∈ Region.ready md ops listed → YieldsIf P ops S oi v a → S w →
      wpAnyE P md ops Q n S fuel (listed.setIfInBounds i true) (a.put oi.dst v) w → wpAnyE P md ops Q n S (fuel + 1) listed a w := by
  intro fuel
  induction fuel with
  | zero =>
    intro listed a w inv _ hr hy hS H
    refine ⟨fun h => (by rw [h] at hr; cases hr), fun j hj => ?_⟩
    by_cases hji : j = i
    · subst hji; exact hy.wpOp hi hS ⟨fun _ => hS, H⟩
    · have := ready_mono hj hji
      rw [H.1] at this
      cases this
  | succ fuel ih =>
    intro listed a w inv hfree hr hy hS H
    refine ⟨fun h => (by rw [h] at hr; cases hr), fun j hj => ?_⟩
    by_cases hji : j = i
    · subst hji; exact hy.wpOp hi hS ⟨fun _ => hS, H⟩
    · have h1 := H.2 j (ready_mono hj hji)
      obtain ⟨hjun, oj, hoj, hall⟩ := mem_ready.1 hj
      have hun := (mem_ready.1 hr).1
      have hjn : j < n := Nat.lt_of_not_le fun h => tail_waits hs hc hn inv _ i rfl hin hun j h hj
      have hnot : ∀ e ∈ oj.after, Region.binds md e = true → e.on ≠ i := fun e he hb heq => by
        have h1 := hall e he hb
        rw [heq, getD_both hun] at h1
        cases h1
      have h2 := wpOp_putIf hoj (hfree j oj hoj hji hjun hnot) (fun cs b => hsel i oi cs b hi) (fun cs b => hsel j oj cs b hoj) hQ hy h1
      have hfree' : ∀ k ok, ops[k]? = some ok → k ≠ i → (listed.setIfInBounds j true).getD k true = false →
          (∀ e ∈ ok.after, Region.binds md e = true → e.on ≠ i) → oi.apart ops ok = true := fun k ok hk hki hun hno => by
        refine hfree k ok hk hki ?_ hno
        by_cases hjk : j = k
        · subst hjk; exact hjun
        · rw [getD_set_ne true hjk] at hun; exact hun
      refine wpOp_mono (fun a' w' h3 => ⟨fun _ => h3.2.1 hjn, ih (listed.setIfInBounds j true) a' w' (inv.set hj hjn) hfree' (ready_mono hr (Ne.symm hji)) h3.1 (h3.2.1 hjn) ?_⟩) h2
      rw [Array.setIfInBounds_comm _ _ hji]
      exact h3.2.2
theorem yieldsIf_then {o : Oper} {v : Value} {a : Act} (h : if Region.wanted o (yielded ops a.tmps) = true then (∀ w, S w → (execOp a.eval o).run P w = .ok (.value v) w) else v = undef) : YieldsIf P ops S o v a := by
  unfold YieldsIf
  by_cases hw : Region.wanted o (yielded ops a.tmps) = true
  · rw [if_pos hw] at h; exact .inl ⟨hw, h⟩
  · rw [if_neg hw] at h; exact .inr ⟨by simpa using hw, h⟩
/-- the walk's goal: what has come up is told by the list alone -/
def wpE (P : Program) (md : Region.Mode) (ops : Array Oper) (Q : Exit → Act → World → Prop) (n : Nat) (S : World → Prop) (fuel : Nat) (listed : Array Bool) (a : Act) (w : World) : Prop := HeadInv md ops n listed → wpAnyE P md ops Q n S fuel listed a w
theorem wpE_take {i : Nat} {oi : Oper} {v : Value} {fuel : Nat} {listed : Array Bool} {a : Act} {w : World} (hi : ops[i]? = some oi) (hB : (decide (i < n) && decide (n < ops.size) && Region.sinkB md ops n && Region.chainB md ops n && Region.noSelect ops && Region.free md ops listed i && (Region.ready md ops listed).contains i) = true)
    (hQ : ∀ c a w, Q (.panic c) (a.put oi.dst v) w → Q (.panic c) a w) (hy : YieldsIf P ops S oi v a) (hS : S w)
    (h : wpE P md ops Q n S fuel (listed.setIfInBounds i true) (a.put oi.dst v) w) : wpE P md ops Q n S (fuel + 1) listed a w := fun inv => by
  simp only [Bool.and_eq_true, decide_eq_true_eq] at hB
  obtain ⟨⟨⟨⟨⟨⟨h1, h2⟩, h3⟩, h4⟩, h5⟩, h6⟩, h7⟩ := hB
  have hr : i ∈ Region.ready md ops listed := by simpa using h7
  exact wpAnyE_first hi h1 h2 h3 h4 (Region.noSelect_spec h5) hQ fuel listed a w inv (Region.free_spec hi h6) hr hy hS (h (inv.set hr h1))
def AllReadyE (P : Program) (md : Region.Mode) (ops : Array Oper) (Q : Exit → Act → World → Prop) (n : Nat) (S : World → Prop) (fuel : Nat) (listed : Array Bool) (a : Act) (w : World) (rs : List Nat) : Prop :=
  ∀ i ∈ rs, wpOp P ops Q i (fun a' w' => S w' ∧ wpE P md ops Q n S fuel (listed.setIfInBounds i true) a' w') a w
theorem AllReadyE.nil {fuel : Nat} {listed : Array Bool} {a : Act} {w : World} : AllReadyE P md ops Q n S fuel listed a w [] := fun _ h => by cases h
theorem AllReadyE.cons {fuel : Nat} {listed : Array Bool} {a : Act} {w : World} {i : Nat} {o : Oper} {rs : List Nat} (ho : ops[i]? = some o)
    (h : ∀ K' : Act → World → Prop, Shut (∀ a w, S w → (S w → wpE P md ops Q n S fuel (listed.setIfInBounds i true) a w) → K' a w) → if Region.wanted o (yielded ops a.tmps) = true then Oper.wp P o a w K' Q else K' (a.put o.dst undef) w)
    (hs : AllReadyE P md ops Q n S fuel listed a w rs) : AllReadyE P md ops Q n S fuel listed a w (i :: rs) := fun j hj => by
  rcases List.mem_cons.1 hj with rfl | hj
  · exact wpOp_step ho (fun K' hK => h K' (fun a w hS hW => hK a w ⟨hS, hW hS⟩))
  · exact hs j hj
theorem wpE_ready {rs : List Nat} {fuel : Nat} {listed : Array Bool} {a : Act} {w : World} (hr : Region.ready md ops listed = rs) (hB : (rs.all (fun i => decide (i < n)) && !rs.isEmpty) = true)
    (h : AllReadyE P md ops Q n S fuel listed a w rs) : wpE P md ops Q n S (fuel + 1) listed a w := fun inv => by
  simp only [Bool.and_eq_true, List.all_eq_true, decide_eq_true_eq] at hB
  refine ⟨fun h0 => ?_, fun i hi => ?_⟩
  · rw [h0] at hr; rw [← hr] at hB; simp at hB
  · have hi' : i ∈ rs := hr ▸ hi
    exact wpOp_mono (fun a' w' h' => ⟨fun _ => h'.1, h'.2 (inv.set hi (hB.1 i hi'))⟩) (h i hi')
/-- the first n have come up -/
theorem wpE_out {fuel : Nat} {listed : Array Bool} {a : Act} {w : World} (hB : (List.range n).all (fun i => listed.getD i false) = true) (h : wpAny P md ops Q fuel listed a w) : wpE P md ops Q n S fuel listed a w := fun inv => by
  clear inv
  revert h hB
  induction fuel generalizing listed a w with
  | zero => intro _ h; exact h
  | succ fuel ih =>
    intro hB h
    refine ⟨h.1, fun i hi => wpOp_mono (fun a' w' h' => ⟨fun hin => ?_, ih ?_ h'⟩) (h.2 i hi)⟩
    · have hu := (mem_ready.1 hi).1
      have := List.all_eq_true.1 hB i (List.mem_range.2 hin)
      rw [getD_both hu] at this
      cases this
    · refine List.all_eq_true.2 fun k hk => ?_
      have := List.all_eq_true.1 hB k hk
      by_cases e : i = k
      · subst e
        exact getD_set_true this
      · rw [getD_set_ne false e]; exact this
theorem wp_region_E {id : Nat} {a : Act} {w : World} (n : Nat) (S : World → Prop) (hm : P.follows .mixedOrders = true) (hS : S w.drew)
    (h : S w.drew → wpE P .any ops Q n S ops.size (Array.replicate ops.size false) a w.drew) : (Code.region id ops true).wp P Q a w :=
  wp_region_any hm (wpAny_of_E _ _ _ _ (h hS ⟨by simp, fun j oj _ hl => (by rw [getD_replicate_false] at hl; cases hl), fun t _ ht => getD_in (by simpa using ht) (getD_replicate_false _ _)⟩))
end
end Go.Tw
/-
  Layer 17 (passage): the laws' awake: its parts.
-/
namespace Go.Proofs.YtbjhemglecllmaaDoor
open Go.RowKit Go.Tw Go.Tw.Ord Go.Tw.Ps Go.Sort
theorem new_at {w : World} {o : Obj} {k : Nat} (h : w.heap.size = k) : (w.alloc o).heap[k]? = some o := h ▸ heap_alloc_new w o
theorem src_sl {S : Nat → Prop} {W : World} {b : Nat} (h : W.heap[b]? = some (.cells #[.string bCam, .int .i64 7, .string bTag, .int .i64 2] 54 (0, 0))) (hS : S b) : SlIs tSrc S W (.slice (some ⟨b, 0, none⟩) 2 2) exS :=
  SlIs.of_block (css := [srcCells ⟨bCam, 7⟩, srcCells ⟨bTag, 2⟩]) (l := exS) h ⟨[], by rfl⟩ ⟨tSrc_mk ⟨by decide, by unfold i64ok; decide⟩, tSrc_mk ⟨by decide, by unfold i64ok; decide⟩, trivial⟩ hS (Nat.le_refl 2) (by unfold maxLen; omega)
theorem pnt_sl {S : Nat → Prop} {W : World} {b : Nat} (h : W.heap[b]? = some (.cells #[.string bP, .int .i64 1, .string es] 29 (0, 0))) (hS : S b) : SlIs tPnt S W (.slice (some ⟨b, 0, none⟩) 1 1) exPt :=
  SlIs.of_block (css := [[.string bP, .int .i64 1, .string es]]) (l := exPt) h ⟨[], by rfl⟩ ⟨⟨[_], _, rfl, ⟨rfl, by decide⟩, [_], [_], rfl, ⟨rfl, by unfold i64ok; decide⟩, ⟨rfl, by decide⟩⟩, trivial⟩ hS (Nat.le_refl 1) (by unfold maxLen; omega)
theorem two_sl {W : World} {b : Nat} {x y : Pas} {v : Value} (h : W.heap[b]? = some (.cells (pCells x v ++ pCells y v).toArray 24 (0, 0))) (hx : PasOk x) (hy : PasOk y) (h1 : SlIs tSrc (· < W.heap.size) W v x.src) (h2 : SlIs tSrc (· < W.heap.size) W v y.src) : SlIs (tPas eS) (· < W.heap.size) W (.slice (some ⟨b, 0, none⟩) 2 2) [x, y] :=
  SlIs.of_block (css := [pCells x v, pCells y v]) (l := [x, y]) h ⟨[], by simp⟩ ⟨tPas_mk hx h1, tPas_mk hy h2, trivial⟩ (lt_of_heap h) (Nat.le_refl 2) (by unfold maxLen; omega)
theorem one_sl {W : World} {b : Nat} {x : Pas} {v : Value} (h : W.heap[b]? = some (.cells (pCells x v).toArray 24 (0, 0))) (hx : PasOk x) (h1 : SlIs tSrc (· < W.heap.size) W v x.src) : SlIs (tPas eS) (· < W.heap.size) W (.slice (some ⟨b, 0, none⟩) 1 1) [x] :=
  SlIs.of_block (css := [pCells x v]) (l := [x]) h ⟨[], by simp⟩ ⟨tPas_mk hx h1, trivial⟩ (lt_of_heap h) (Nat.le_refl 1) (by unfold maxLen; omega)
theorem okA : PasOk exA := ⟨by decide, by decide, by unfold i64ok; decide, by decide, by decide, by unfold i64ok; decide, by unfold i64ok; decide⟩
theorem okB : PasOk exB := ⟨by decide, by decide, by unfold i64ok; decide, by decide, by decide, by unfold i64ok; decide, by unfold i64ok; decide⟩
theorem okC : PasOk exC := ⟨by decide, by decide, by unfold i64ok; decide, by decide, by decide, by unfold i64ok; decide, by unfold i64ok; decide⟩
/-- the blocks of the examples -/
structure ExB (W : World) (q : Nat) : Prop where
  pt : W.heap[q]? = some (.cells #[.string bP, .int .i64 1, .string es] 29 (0, 0))
  nt : W.heap[q + 1]? = some (.cells #[.slice (some ⟨q, 0, none⟩) 1 1, .slice none 0 0] 32 (0, 0))
  sr : W.heap[q + 1 + 1]? = some (.cells #[.string bCam, .int .i64 7, .string bTag, .int .i64 2] 54 (0, 0))
  ba : W.heap[q + 1 + 1 + 1]? = some (.cells (pCells exA (.slice (some ⟨q + 1 + 1, 0, none⟩) 2 2)).toArray 24 (0, 0))
  bb : W.heap[q + 1 + 1 + 1 + 1]? = some (.cells (pCells exB (.slice (some ⟨q + 1 + 1, 0, none⟩) 2 2)).toArray 24 (0, 0))
  ls : W.heap[q + 1 + 1 + 1 + 1 + 1]? = some (.cells (pCells exA (.slice (some ⟨q + 1 + 1, 0, none⟩) 2 2) ++ pCells exB (.slice (some ⟨q + 1 + 1, 0, none⟩) 2 2)).toArray 24 (0, 0))
theorem ExB.step {W W' : World} {q : Nat} (h : ExB W q) (hb : Below W.heap.size W W') : ExB W' q :=
  ⟨Go.Tw.Below.at_old hb h.pt, Go.Tw.Below.at_old hb h.nt, Go.Tw.Below.at_old hb h.sr, Go.Tw.Below.at_old hb h.ba, Go.Tw.Below.at_old hb h.bb, Go.Tw.Below.at_old hb h.ls⟩
theorem ExB.src {W : World} {q : Nat} (h : ExB W q) : SlIs tSrc (· < W.heap.size) W (.slice (some ⟨q + 1 + 1, 0, none⟩) 2 2) exS := src_sl h.sr (lt_of_heap h.sr)
theorem ExB.lst {W : World} {q : Nat} (h : ExB W q) : SlIs (tPas eS) (· < W.heap.size) W (.slice (some ⟨q + 1 + 1 + 1 + 1 + 1, 0, none⟩) 2 2) [exA, exB] := two_sl h.ls okA okB h.src h.src
theorem ExB.pts {W : World} {q : Nat} (h : ExB W q) : SlIs tPnt (· < W.heap.size) W (.slice (some ⟨q, 0, none⟩) 1 1) exPt := pnt_sl h.pt (lt_of_heap h.pt)
theorem ExB.ca {W : World} {q : Nat} (h : ExB W q) : W.cell? ⟨q + 1 + 1 + 1, 0, none⟩ = some (.string ⟨#[99, 97, 109, 46, 55]⟩) ∧ W.cell? ⟨q + 1 + 1 + 1, 1, none⟩ = some (.string ⟨#[112]⟩) ∧ W.cell? ⟨q + 1 + 1 + 1, 2, none⟩ = some (.int .i64 5) ∧ W.cell? ⟨q + 1 + 1 + 1, 3, none⟩ = some (.string ⟨#[]⟩) ∧ W.cell? ⟨q + 1 + 1 + 1, 4, none⟩ = some (.string ⟨#[65, 66, 49]⟩) ∧ W.cell? ⟨q + 1 + 1 + 1, 5, none⟩ = some (.int .i64 0) ∧ W.cell? ⟨q + 1 + 1 + 1, 6, none⟩ = some (.int .i64 900) ∧ W.cell? ⟨q + 1 + 1 + 1, 7, none⟩ = some (.slice (some ⟨q + 1 + 1, 0, none⟩) 2 2) := ⟨cell_of_row _ _ 0 _ _ _ h.ba, cell_of_row _ _ 1 _ _ _ h.ba, cell_of_row _ _ 2 _ _ _ h.ba, cell_of_row _ _ 3 _ _ _ h.ba, cell_of_row _ _ 4 _ _ _ h.ba, cell_of_row _ _ 5 _ _ _ h.ba, cell_of_row _ _ 6 _ _ _ h.ba, cell_of_row _ _ 7 _ _ _ h.ba⟩
theorem ExB.cb {W : World} {q : Nat} (h : ExB W q) : W.cell? ⟨q + 1 + 1 + 1 + 1, 0, none⟩ = some (.string ⟨#[99, 97, 109, 46, 55]⟩) ∧ W.cell? ⟨q + 1 + 1 + 1 + 1, 1, none⟩ = some (.string ⟨#[112]⟩) ∧ W.cell? ⟨q + 1 + 1 + 1 + 1, 2, none⟩ = some (.int .i64 4) ∧ W.cell? ⟨q + 1 + 1 + 1 + 1, 3, none⟩ = some (.string ⟨#[84]⟩) ∧ W.cell? ⟨q + 1 + 1 + 1 + 1, 4, none⟩ = some (.string ⟨#[65, 66, 49]⟩) ∧ W.cell? ⟨q + 1 + 1 + 1 + 1, 5, none⟩ = some (.int .i64 0) ∧ W.cell? ⟨q + 1 + 1 + 1 + 1, 6, none⟩ = some (.int .i64 900) ∧ W.cell? ⟨q + 1 + 1 + 1 + 1, 7, none⟩ = some (.slice (some ⟨q + 1 + 1, 0, none⟩) 2 2) := ⟨cell_of_row _ _ 0 _ _ _ h.bb, cell_of_row _ _ 1 _ _ _ h.bb, cell_of_row _ _ 2 _ _ _ h.bb, cell_of_row _ _ 3 _ _ _ h.bb, cell_of_row _ _ 4 _ _ _ h.bb, cell_of_row _ _ 5 _ _ _ h.bb, cell_of_row _ _ 6 _ _ _ h.bb, cell_of_row _ _ 7 _ _ _ h.bb⟩
theorem ExB.cn {W : World} {q : Nat} (h : ExB W q) : W.cell? ⟨q + 1, 0, none⟩ = some (.slice (some ⟨q, 0, none⟩) 1 1) ∧ W.cell? ⟨q + 1, 1, none⟩ = some (.slice none 0 0) := ⟨cell_of_row _ _ 0 _ _ _ h.nt, cell_of_row _ _ 1 _ _ _ h.nt⟩
def BadB (W : World) (q g : Nat) : Prop := W.heap[g]? = some (.cells (pCells exC (.slice (some ⟨q + 1 + 1, 0, none⟩) 2 2)).toArray 24 (0, 0))
theorem bad_cells {W : World} {q g : Nat} (h : BadB W q g) : W.cell? ⟨g, 0, none⟩ = some (.string ⟨#[99, 97, 109, 46, 56]⟩) ∧ W.cell? ⟨g, 1, none⟩ = some (.string ⟨#[112]⟩) ∧ W.cell? ⟨g, 2, none⟩ = some (.int .i64 5) ∧ W.cell? ⟨g, 3, none⟩ = some (.string ⟨#[]⟩) ∧ W.cell? ⟨g, 4, none⟩ = some (.string ⟨#[65, 66, 49]⟩) ∧ W.cell? ⟨g, 5, none⟩ = some (.int .i64 0) ∧ W.cell? ⟨g, 6, none⟩ = some (.int .i64 900) ∧ W.cell? ⟨g, 7, none⟩ = some (.slice (some ⟨q + 1 + 1, 0, none⟩) 2 2) := ⟨cell_of_row _ _ 0 _ _ _ h, cell_of_row _ _ 1 _ _ _ h, cell_of_row _ _ 2 _ _ _ h, cell_of_row _ _ 3 _ _ _ h, cell_of_row _ _ 4 _ _ _ h, cell_of_row _ _ 5 _ _ _ h, cell_of_row _ _ 6 _ _ _ h, cell_of_row _ _ 7 _ _ _ h⟩
theorem BadB.step {W W' : World} {q g : Nat} (h : BadB W q g) (hb : Below W.heap.size W W') : BadB W' q g := Go.Tw.Below.at_old hb h
theorem ex_seq {W : World} : ∀ s ∈ exS, FmtOk s.seq W := fun s hs => by
  have h : s = ⟨bCam, 7⟩ ∨ s = ⟨bTag, 2⟩ := by
    unfold exS at hs
    simp at hs
    exact hs
  rcases h with rfl | rfl
  · exact fmt_small 7 (by decide) W
  · exact fmt_small 2 (by decide) W
theorem ex_dev : ∀ s ∈ exS, s.dev.size ≤ 1000 := by decide
theorem ex_i64 : ∀ s ∈ exS, i64ok s.seq := by unfold i64ok; decide
theorem chkA {W : World} {q : Nat} (h : ExB W q) : Calls Tryd.prog 13 #[.agg #[.string ⟨#[99, 97, 109, 46, 55]⟩, .string ⟨#[112]⟩, .int .i64 5, .string ⟨#[]⟩, .string ⟨#[65, 66, 49]⟩, .int .i64 0, .int .i64 900, .slice (some ⟨q + 1 + 1, 0, none⟩) 2 2], .agg #[.slice (some ⟨q, 0, none⟩) 1 1, .slice none 0 0]] W fun e w' => e = .returned (.int .i64 0) ∧ Below W.heap.size W w' := by
  have := check_any exA _ exPt _ W h.src okA (by decide) ex_dev ex_seq h.pts (by decide)
  rw [ex_checkA] at this
  exact this
theorem chkC {W : World} {q : Nat} (h : ExB W q) : Calls Tryd.prog 13 #[.agg #[.string ⟨#[99, 97, 109, 46, 56]⟩, .string ⟨#[112]⟩, .int .i64 5, .string ⟨#[]⟩, .string ⟨#[65, 66, 49]⟩, .int .i64 0, .int .i64 900, .slice (some ⟨q + 1 + 1, 0, none⟩) 2 2], .agg #[.slice (some ⟨q, 0, none⟩) 1 1, .slice none 0 0]] W fun e w' => e = .returned (.int .i64 6) ∧ Below W.heap.size W w' := by
  have := check_any exC _ exPt _ W h.src okC (by decide) ex_dev ex_seq h.pts (by decide)
  rw [ex_checkC] at this
  exact this
theorem idEx {W : World} {q : Nat} (h : ExB W q) : Calls Tryd.prog 15 #[.agg #[.string ⟨#[99, 97, 109, 46, 56]⟩, .string ⟨#[112]⟩, .int .i64 5, .string ⟨#[]⟩, .string ⟨#[65, 66, 49]⟩, .int .i64 0, .int .i64 900, .slice (some ⟨q + 1 + 1, 0, none⟩) 2 2]] W fun e w' => e = .returned (.string ⟨#[99, 97, 109, 46, 55]⟩) ∧ Below W.heap.size W w' := by
  have := ID_any exC _ W h.src ex_dev ex_i64 ex_seq
  rw [ex_id (x := exC) rfl] at this
  exact this.mono fun e w' h => ⟨h.1, h.2.below⟩
theorem vehA {W : World} {v : Value} : Calls Tryd.prog 17 #[.agg #[.string ⟨#[99, 97, 109, 46, 55]⟩, .string ⟨#[112]⟩, .int .i64 5, .string ⟨#[]⟩, .string ⟨#[65, 66, 49]⟩, .int .i64 0, .int .i64 900, v]] W fun e w' => e = .returned (.string ⟨#[65, 66, 49]⟩) ∧ Below W.heap.size W w' := by
  have := vehicle_any exA v W
  rw [ex_vehA] at this
  exact this.mono fun e w' h => ⟨h.1, h.2.below⟩
theorem vehB {W : World} {v : Value} : Calls Tryd.prog 17 #[.agg #[.string ⟨#[99, 97, 109, 46, 55]⟩, .string ⟨#[112]⟩, .int .i64 4, .string ⟨#[84]⟩, .string ⟨#[65, 66, 49]⟩, .int .i64 0, .int .i64 900, v]] W fun e w' => e = .returned (.string ⟨#[84]⟩) ∧ Below W.heap.size W w' := by
  have := vehicle_any exB v W
  rw [ex_vehB] at this
  exact this.mono fun e w' h => ⟨h.1, h.2.below⟩
theorem baSl {W : World} {q b : Nat} (hX : ExB W q) (h : W.heap[b]? = some (.cells #[.string ⟨#[99, 97, 109, 46, 55]⟩, .string ⟨#[112]⟩, .int .i64 4, .string ⟨#[84]⟩, .string ⟨#[65, 66, 49]⟩, .int .i64 0, .int .i64 900, .slice (some ⟨q + 1 + 1, 0, none⟩) 2 2, .string ⟨#[99, 97, 109, 46, 55]⟩, .string ⟨#[112]⟩, .int .i64 5, .string ⟨#[]⟩, .string ⟨#[65, 66, 49]⟩, .int .i64 0, .int .i64 900, .slice (some ⟨q + 1 + 1, 0, none⟩) 2 2] 24 (0, 0))) : SlIs (tPas eS) (· < W.heap.size) W (.slice (some ⟨b, 0, none⟩) 2 2) [exB, exA] := two_sl h okB okA hX.src hX.src
theorem aSl {W : World} {q b : Nat} (hX : ExB W q) (h : W.heap[b]? = some (.cells #[.string ⟨#[99, 97, 109, 46, 55]⟩, .string ⟨#[112]⟩, .int .i64 5, .string ⟨#[]⟩, .string ⟨#[65, 66, 49]⟩, .int .i64 0, .int .i64 900, .slice (some ⟨q + 1 + 1, 0, none⟩) 2 2] 24 (0, 0))) : SlIs (tPas eS) (· < W.heap.size) W (.slice (some ⟨b, 0, none⟩) 1 1) [exA] := one_sl h okA hX.src
theorem tSl {W : World} {b : Nat} (h : W.heap[b]? = some (.cells #[.string ⟨#[84]⟩] 9 (0, 0))) : SlIs tStr (· < W.heap.size) W (.slice (some ⟨b, 0, none⟩) 1 1) [bT] :=
  SlIs.of_block (css := [[.string bT]]) (l := [bT]) h ⟨[], by rfl⟩ ⟨⟨rfl, by decide⟩, trivial⟩ (lt_of_heap h) (Nat.le_refl 1) (by unfold maxLen; omega)
theorem srtEx {W : World} {q : Nat} (h : ExB W q) : Calls Tryd.prog 21 #[.slice (some ⟨q + 1 + 1 + 1 + 1 + 1, 0, none⟩) 2 2] W fun e w' => (∃ a c, e = .returned (.slice a 2 c) ∧ SlIs (tPas eS) (· < w'.heap.size) w' (.slice a 2 c) [exB, exA]) ∧ Below W.heap.size W w' := by
  have := sort_any [exA, exB] _ W h.lst (by decide) (by decide)
  rw [ex_sort] at this
  exact this
theorem ofEx1 {W : World} {q : Nat} (h : ExB W q) : Calls Tryd.prog 25 #[.slice (some ⟨q + 1 + 1 + 1 + 1 + 1, 0, none⟩) 2 2, .string ⟨#[84]⟩] W fun e w' => (∃ a c, e = .returned (.slice a 2 c) ∧ SlIs (tPas eS) (· < w'.heap.size) w' (.slice a 2 c) [exB, exA]) ∧ Below W.heap.size W w' := by
  have := of_any [exA, exB] bT _ W h.lst (by decide) (by decide)
  rw [ex_ofT] at this
  refine this.mono fun e w' h => ⟨?_, h.2⟩
  obtain ⟨v, rfl, hs⟩ := h.1
  obtain ⟨a, c, _, _, rfl, -⟩ := id hs
  exact ⟨a, c, rfl, hs⟩
theorem ofEx2 {W : World} {q : Nat} (h : ExB W q) : Calls Tryd.prog 25 #[.slice (some ⟨q + 1 + 1 + 1 + 1 + 1, 0, none⟩) 2 2, .string ⟨#[65, 66, 49]⟩] W fun e w' => (∃ a c, e = .returned (.slice a 0 c)) ∧ Below W.heap.size W w' := by
  have := of_any [exA, exB] bAB _ W h.lst (by decide) (by decide)
  rw [ex_ofAB] at this
  refine this.mono fun e w' h => ⟨?_, h.2⟩
  obtain ⟨v, rfl, hs⟩ := h.1
  obtain ⟨a, c, _, _, rfl, -⟩ := id hs
  exact ⟨a, c, rfl⟩
theorem vehEx {W : World} {q : Nat} (h : ExB W q) : Calls Tryd.prog 28 #[.slice (some ⟨q + 1 + 1 + 1 + 1 + 1, 0, none⟩) 2 2] W fun e w' => (∃ a c, e = .returned (.slice a 1 c) ∧ SlIs tStr (· < w'.heap.size) w' (.slice a 1 c) [bT]) ∧ Below W.heap.size W w' := by
  refine (vehicles_any [exA, exB] _ W h.lst (by decide)).mono fun e w' h => ⟨?_, h.2⟩
  obtain ⟨v, rfl, O, hO, hs⟩ := h.1
  obtain rfl := ex_veh hO
  obtain ⟨a, c, _, _, rfl, -⟩ := id hs
  exact ⟨a, c, rfl, hs⟩
theorem samEx {W : World} {l : List Pas} {v1 v2 : Value} (h1 : SlIs (tPas eS) (· < W.heap.size) W v1 l) (h2 : SlIs (tPas eS) (· < W.heap.size) W v2 l) : Calls Tryd.prog 20 #[v1, v2] W fun e w' => e = .returned (.bool true) ∧ Below W.heap.size W w' :=
  (same_any l l v1 v2 W h1 h2).mono fun e w' h => ⟨by rw [h.1]; simp, h.2.below⟩
theorem stxEx {W : World} {l : List ByteArray} {v1 v2 : Value} (h1 : SlIs tStr (· < W.heap.size) W v1 l) (h2 : SlIs tStr (· < W.heap.size) W v2 l) : Calls Tryd.prog 27 #[v1, v2] W fun e w' => e = .returned (.bool true) ∧ Below W.heap.size W w' :=
  (sameTexts_any l l v1 v2 W h1 h2).mono fun e w' h => ⟨by rw [h.1]; simp, h.2⟩
end Go.Proofs.YtbjhemglecllmaaDoor
