/-
  Layer proofs, merged: Sized PoRp PoNr PoRq PoRx PoRy PoSz.
-/
import Derived.Test.YtifcelebfagjbaaGreatDoorLib
import Derived.Test.YtifcelebfagjbaaGreatDoorMgK
import Derived.Test.YtifcelebfagjbaaGreatDoorMgM
import Derived.Test.YtifcelebfagjbaaGreatDoorMgQ
import Derived.Test.YtifcelebfagjbaaGreatDoorProg
import Derived.Test.YtifcelebfagjbaaGreatDoorPlatePure
import Derived.Deep.RegionWith
import Derived.Test.YtifcelebfagjbaaGreatDoorMgG
import Derived.Test.YtifcelebfagjbaaGreatDoorMgP
namespace Go.Tw
open Go.RowKit Go.ChangeShapes Go.WideShapes
def Ty.sub {α : Type} (T : Ty α) (p : α → Prop) : Ty α where
 sz := T.sz
 is := fun S w cs x => T.is S w cs x ∧ p x
 len := fun h => T.len h.1
 keep := fun h hs hw => ⟨T.keep h.1 hs hw, h.2⟩
 one := fun h => T.one h.1
 own := fun F w cs x => T.own F w cs x ∧ p x
 own_is := fun h => ⟨T.own_is h.1, h.2⟩
 own_keep := fun h hw => ⟨T.own_keep h.1 hw, h.2⟩
 own_lt := fun h => T.own_lt h.1
theorem SlIs.ofSub {α : Type} {T : Ty α} {p : α → Prop} {S : Nat → Prop} {w : World} {v : Value} {l : List α} (h : SlIs (T.sub p) S w v l) : SlIs T S w v l ∧ ∀ x ∈ l, p x := by
 obtain ⟨ao, cap, b, off, hv, h1, h2, h3, h4⟩ := h; refine ⟨⟨ao, cap, b, off, hv, h1, h2, h3, fun k hk => ?_⟩, fun x hx => ?_⟩
 · obtain ⟨g1, g2, g3, cs, g4, g5⟩ := h4 k hk
   exact ⟨g1, g2, g3, cs, g4, g5.1⟩
 · obtain ⟨k, hk, rfl⟩ := List.getElem_of_mem hx
   obtain ⟨_, _, _, cs, _, g5⟩ := h4 k hk; exact g5.2
def OpensW {α : Type} (P : Program) (t : TypeId) (T : Ty α) : Prop :=
 ∀ (H : Type) (enc : TypeId × Value → H) (w : World) (fuel : Nat) (cs : List Value) (x : DataW H × List MemPlace), DataW.trod enc P w 0 (fun _ => true) true fuel t cs = some x → (∀ n ∈ x.1.weights P t, n ≤ reachBytes) → ∃ y, T.is (· < w.heap.size) w cs y
theorem weightsAll_mem {H : Type} {P : Program} {e : TypeId} {d : DataW H} {n : Nat} (hn : n ∈ d.weights P e) : ∀ {l : List (DataW H)}, d ∈ l → n ∈ DataW.weightsAll P e l
 | [], h => absurd h List.not_mem_nil
 | x :: l, h => by
  rw [DataW.weightsAll, List.mem_append]
  rcases List.mem_cons.1 h with rfl | h
  · exact .inl hn
  · exact .inr (weightsAll_mem hn h)
section
variable {P : Program}
theorem Opens.sized {α : Type} {T : Ty α} {t : TypeId} (h : Opens P t T) : OpensW P t T := fun H enc w fuel cs x hx _ => h H enc w fuel cs x hx
theorem opensW_slice {α : Type} {T : Ty α} {t e : TypeId} (ht : P.underlying t = some (.slice e)) (hsz : P.cellsOf e = T.sz) (hpos : 0 < T.sz) (hby : 0 < P.bytesOf e) (he : OpensW P e T) {e' : TypeId} : OpensW P t ((T.list e').sub fun l => l.length ≤ reachBytes) := fun H enc w fuel cs x h hw => by
 rcases Go.Deep.open_slice ht h with ⟨rfl, _⟩ | ⟨a, len, cap, m, n, D, Pl, rfl, _, hl, hm, hmm, rfl, hx⟩
 · exact ⟨[], ⟨_, rfl, none, 0, 0, 0, rfl, Nat.le_refl _, Nat.zero_le _, fun _ => rfl, fun k hk => absurd hk (Nat.not_lt_zero _)⟩, Nat.zero_le _⟩
 · simp only [if_true] at hmm
   subst hmm
   have hlen0 : len ≤ reachBytes := by
    have := hw ((len + (m - len)) * P.bytesOf e) (by simp [DataW.weights, ht])
    have h2 : len * 1 ≤ (len + (m - len)) * P.bytesOf e := Nat.mul_le_mul (by omega) hby
    omega
   have hwi : ∀ i, i < len → ∀ k ∈ (D i).weights P e, k ≤ reachBytes := fun i hi k hk => hw k (by
    simp only [DataW.weights, ht, List.mem_cons, List.mem_append]
    exact .inr (.inl (weightsAll_mem hk (List.mem_map.2 ⟨i, by simpa using hi, rfl⟩))))
   have key : ∀ i, i < len → ∃ y, ∃ cs' : List Value, w.cells? 0 (a.add (i * T.sz)) T.sz = some cs' ∧ T.is (· < w.heap.size) w cs' y := fun i hi => by
    obtain ⟨cs', h1, h2⟩ := hx i (by omega); obtain ⟨y, hy⟩ := he _ _ _ _ _ _ h2 (hwi i hi); rw [hsz] at h1; exact ⟨y, cs', h1, hy⟩
   obtain ⟨l, hlen, hget⟩ := list_of_lt key; subst hlen; refine ⟨l, ⟨_, rfl, some a, _, a.block, a.off, rfl, hl, hm, fun h => (by cases h), fun k hk => ?_⟩, hlen0⟩; obtain ⟨cs', h1, h2⟩ := hget k hk; obtain ⟨g1, g2⟩ := cells?_get h1; have h0 := g2 0 hpos; have h0' : ∃ u, w.cell? ((a.add (k * T.sz)).add 0) = some u := ⟨cs'[0]'(by omega), by rw [h0]; exact List.getElem?_eq_getElem _⟩; obtain ⟨u, hu⟩ := h0'
   have hblk : a.block < w.heap.size := by
    have := lt_of_cell hu
    have e : ((a.add (k * T.sz)).add 0).block = a.block := by unfold Addr.add; simp; split <;> rfl
    rwa [e] at this
   have hspot : a.spot = none := by
    obtain ⟨cs0, q1, _⟩ := hget 0 (by omega); obtain ⟨q3, q4⟩ := cells?_get q1; have := q4 0 hpos; simp [Addr.add] at this; rw [List.getElem?_eq_getElem (by omega)] at this; exact World.cell?_spot this
   obtain ⟨ab, ao, sp⟩ := a; simp only at hspot hblk; subst hspot; refine ⟨rfl, hblk, hblk, cs', fun j hj => ?_, h2⟩; rw [← g2 j hj, Go.Deep.add_add]
   congr 1
   unfold Addr.add
   split
   · rename_i h; simp at h; simp only [h, Nat.add_zero]
   · simp
theorem arg_sliceW {H : Type} {enc : TypeId × Value → H} {w : World} {r : Reach} {b0 : Nat} {t : TypeId} {v : Value} {d : DataW H} {ps : List MemPlace} {ts : List TypeId} {ds : List (DataW H)} {j : Nat}
  {α : Type} {T : Ty α} {e : TypeId} (ht : P.underlying t = some (.slice e)) {e' : TypeId} {p : List α → Prop} (ho : OpensW P t ((T.list e').sub p)) (hval : Value.okWide P w r b0 t v) (hd : DataW.Trod enc P w 0 (fun _ => true) true t v d ps)
  (hz : (DataW.weightsEach P ts ds).all (· ≤ reachBytes) = true) (htj : ts[j]? = some t) (hdj : ds[j]? = some d) : ∃ l, SlIs T (· < w.heap.size) w v l ∧ p l := by
 obtain ⟨fuel, h⟩ := hd
 obtain ⟨l, ⟨v', hv, hl⟩, hp⟩ := ho _ _ _ _ _ _ h (fun n hn => by
  have := List.all_eq_true.1 hz _ (DataW.weights_mem_each htj hdj n hn)
  simpa using this)
 obtain ⟨a, len, cap, rfl⟩ := okWide_slice ht hval; simp [Value.cells] at hv; exact ⟨l, hv ▸ hl, hp⟩
end
end Go.Tw
namespace Go.Proofs.YtifcelebfagjbaaGreatDoor
open Go.RowKit Go.Tw Go.Tw.Ord Go.Tw.Po Go.Sort
theorem gr_drewN {a : World} (n : Nat) : GrB a (a.drewN n) := ⟨n, #[], by rw [grow_empty]⟩
set_option maxRecDepth 100000 in
set_option maxHeartbeats 1000000 in
theorem Before_gr (s t : ByteArray) (w : World) (_hs : s.size ≤ maxLen) (ht : t.size ≤ maxLen) :
  Calls Tryz.prog 99 #[.string s, .string t] w fun e w' => e = .returned (.bool (ltL (codes s) (codes t))) ∧ GrB w w' := by
 unfold maxLen at _hs ht
 go_enter Tryz.func99, Tryz.ntmps99
 go_wp2
 go_loopg [5] s.size (fun g i wr => ∃ k : Nat, k + g = s.size ∧ k ≤ t.size ∧ i = .int .i64 k ∧ ltL (codes s) (codes t) = ltL ((codes s).drop k) ((codes t).drop k) ∧ ∃ n, wr = w.drewN n)
 case atStart => exact ⟨0, by omega, by omega, rfl, rfl, 0, rfl⟩
 case round =>
  obtain ⟨k, hk, hkt, rfl, he, n, rfl⟩ := hrel; have HE := Lib.hid he; clear he
  by_cases h1 : k < s.size
  case neg =>
   have h1d : decide ((k : Int) < (s.size : Int)) = false := by simp; omega
   have HF := Lib.hid (ltL_end (a := codes s) (b := codes t) (k := k) (by rw [codes_len]; omega) (by rw [codes_len]; omega) (.inl (by rw [codes_len]; omega))); go_wp2; go_ret; exact ⟨ret_bool (by rw [HE.out, HF.out, codes_len, codes_len]), gr_drewN _⟩
  by_cases h2 : k < t.size
  case neg =>
   have HF := Lib.hid (ltL_end (a := codes s) (b := codes t) (k := k) (by rw [codes_len]; omega) (by rw [codes_len]; omega) (.inr (by rw [codes_len]; omega))); go_wp2; go_ret; exact ⟨ret_bool (by rw [HE.out, HF.out, codes_len, codes_len]), gr_drewN _⟩
  have k0 : (0 : Int) ≤ (k : Int) := by omega
  have k1 : (k : Int) < (s.size : Int) := by omega
  have k2 : (k : Int) < (t.size : Int) := by omega
  have HD := Lib.hid (ltL_drop (a := codes s) (b := codes t) (k := k) (by rw [codes_len]; exact h1) (by rw [codes_len]; exact h2)); rw [codes_get s h1, codes_get t h2] at HD
  rcases Bool.eq_false_or_eq_true ((s[k].toNat : Int) == (t[k].toNat : Int)) with heq | heq
  · have HQ := Lib.hid (show (s[k].toNat : Int) = (t[k].toNat : Int) by simpa using heq)
    have hne : ((s[k].toNat : Int) != (t[k].toNat : Int)) = false := by simp [bne, heq]
    go_wp2_with (go_quiet (fail))
    go_roundg (s.size - (k + 1))
    case measure => omega
    case rel => exact ⟨k + 1, by omega, by omega, by go_num, by rw [HE.out, HD.out, if_pos HQ.out], _, rfl⟩
  · have HQ := Lib.hid (show ¬ (s[k].toNat : Int) = (t[k].toNat : Int) by simpa using heq)
    have hne : ((s[k].toNat : Int) != (t[k].toNat : Int)) = true := by simp [bne, heq]
    go_wp2_with (go_quiet (fail))
    go_ret; exact ⟨ret_bool (by rw [HE.out, HD.out, if_neg HQ.out]; simp), by rw [World.drewN_drewN, World.drewN_drewN]; exact gr_drewN _⟩
def AnyB (e : Ending) : Prop := ∃ b, e = .returned (.bool b)
def AnyI (e : Ending) : Prop := ∃ n, e = .returned (.int .i64 n) ∧ i64ok n
theorem strs_open {S : Nat → Prop} {w : World} {v : Value} {l : List ByteArray} (h : SlIs tStr S w v l) :
  ∃ ao cap b off, v = .slice ao l.length cap ∧ l.length ≤ cap ∧ cap ≤ maxLen ∧ ∀ w', SameOn S w w' → ∀ k (_ : k < l.length), ao = some ⟨b, off, none⟩ ∧ S b ∧ b < w.heap.size ∧ w'.cell? ⟨b, off + k, none⟩ = some (.string l[k]) ∧ l[k].size ≤ maxLen := by
 obtain ⟨ao, cap, b, off, hv, h1, h2, h3⟩ := h.openS; refine ⟨ao, cap, b, off, hv, h1, h2, fun w' hw k hk => ?_⟩; obtain ⟨g1, g2, g2', cs, g3, ⟨rfl, g5⟩⟩ := h3 w' hw k hk; have := g3 0 (by decide); simp [tStr] at this; exact ⟨g1, g2, g2', this, g5⟩
theorem slStrR : SlT Tryz.prog 87 9 1 16 := SlT.of (z := .string ByteArray.empty) Tryz.underlying87 (by kernel_rfl) rfl (by decide)
set_option maxHeartbeats 1000000 in
theorem hasText_any (l : List ByteArray) (s : ByteArray) (v : Value) (w : World) (h : SlIs tStr (· < w.heap.size) w v l) :
  Calls Tryz.prog 57 #[v, .string s] w fun e w' => AnyB e ∧ Below w.heap.size w w' := by
 obtain ⟨ao, cap, b, off, rfl, hla, hma, ho⟩ := strs_open h; unfold maxLen at hma; have HO := Lib.hid ho; clear h ho
 go_enter Tryz.func57, Tryz.ntmps57
 go_wp2
 go_loopg [5] l.length (fun g i wr => ∃ k : Nat, k + g = l.length ∧ i = .int .i64 k ∧ Below w.heap.size w wr)
 case atStart => exact ⟨0, by omega, rfl, Below.refl _ _⟩
 case round =>
  obtain ⟨k, hk, rfl, hb⟩ := hrel; have HB := Lib.hid hb
  by_cases hlt : k < l.length
  · obtain ⟨rfl, -, hbk, hc, hsz⟩ := HO.out wr (.of_below hb) k hlt
    have k0 : (0 : Int) ≤ (k : Int) := by omega
    have k1 : (k : Int) < (l.length : Int) := by omega
    generalize l[k] = x at hc hsz; clear hb; obtain ⟨q, hq⟩ : ∃ q, (x.toList == s.toList) = q := ⟨_, rfl⟩
    cases q with
    | true =>
     go_wp2; go_ret; exact ⟨⟨_, rfl⟩, HB.out⟩
    | false =>
     go_wp2
     go_roundg (l.length - (k + 1))
     case measure => omega
     case rel => exact ⟨k + 1, by omega, by go_num, HB.out⟩
  · have hkd : decide ((k : Int) < (l.length : Int)) = false := by simp; omega
    go_wp2; go_ret; exact ⟨⟨_, rfl⟩, HB.out⟩
set_option maxRecDepth 100000 in
set_option maxHeartbeats 4000000 in
theorem insertR_any (l : List ByteArray) (s : ByteArray) (v : Value) (w : World) (h1 : SlIs tStr (· < w.heap.size) w v l) (hl : l.length ≤ 100000) (hs : s.size ≤ maxLen) :
  Calls Tryz.prog 58 #[v, .string s] w fun e w' => (∃ v', e = .returned v' ∧ ∃ O : List ByteArray, O.length ≤ l.length + 1 ∧ SlIs tStr (· < w'.heap.size) w' v' O) ∧ Below w.heap.size w w' := by
 have HS := Lib.hid h1; obtain ⟨ao, cap, b, off, rfl, hla, hma, ho⟩ := strs_open h1; unfold maxLen at hma; have HO := Lib.hid ho; have HSZ := Lib.hid hs; clear h1 ho hs
 go_enter Tryz.func58, Tryz.ntmps58
 go_wp2
 go_loopg [5, 6, 7] l.length (fun gx vo vd i wo => ∃ (k : Nat) (d : Bool) (O : List ByteArray), k + gx = l.length ∧ vd = .bool d ∧ i = .int .i64 k ∧ Hid (O.length ≤ k + 1 ∧ (d = false → O.length ≤ k)) ∧ OwnSl tStr 9 w.heap.size wo vo O ∧ Below w.heap.size w wo)
 case atStart => exact ⟨0, false, [], by omega, rfl, rfl, Lib.hid ⟨by simp, fun _ => by simp⟩, OwnSl.nil _ _ _ _, Below.refl _ _⟩
 case round =>
  obtain ⟨wo, rfl⟩ : ∃ wo : World, wo = wr := ⟨_, rfl⟩; obtain ⟨k, d, O, hk, rfl, rfl, HI0, hown, hb⟩ := hrel; have hOl := HI0.out.1; have HI := Lib.hid HI0.out.2; clear HI0; have HZ := Lib.hid hb.size; have HB := Lib.hid hb; have HOW := Lib.hid hown
  by_cases hlt : k < l.length
  · obtain ⟨rfl, -, hbk, hc, hsz⟩ := HO.out wo (.of_below hb) k hlt
    have HTK := Lib.hid (show l.take (k + 1) = l.take k ++ [l[k]] from List.take_succ_eq_append_getElem hlt); have HM := Lib.hid (show l[k] ∈ l from List.getElem_mem hlt); generalize l[k] = x at HTK hc hsz HM; have HXZ := Lib.hid hsz; have HC := Lib.hid (show ∀ w', Below wo.heap.size wo w' → w'.cell? ⟨b, off + k, none⟩ = some (.string x) from fun w' hw => (hw.cell (p := ⟨b, off + k, none⟩) (Nat.lt_of_lt_of_le hbk hb.size)).trans hc); have k0 : (0 : Int) ≤ (k : Int) := by omega
    have k1 : (k : Int) < (l.length : Int) := by omega
    have HBK := Lib.hid hbk; clear hb hown hbk hsz
    by_cases hxs : x = s
    · have e1 : (x.toList == s.toList) = true := by rw [eq_str]; simpa using hxs
      have HXS := Lib.hid hxs; clear hxs; go_wp2; go_ret; exact ⟨⟨_, rfl, l, by omega, HS.out.step HB.out⟩, HB.out⟩
    · have e1 : (x.toList == s.toList) = false := by rw [eq_str]; simpa using hxs
      have HXS := Lib.hid hxs; clear hxs
      cases d with
      | true =>
       go_wp2_with (first | (at_builtin
                             refine wpList_append_one (.tmp 35) (.tmp 40) rfl 87 rfl slStrR rfl HOW.out rfl (S := fun _ => False) (y := x) ⟨rfl, HXZ.out⟩ (fun _ h => h.elim) (by first | omega | (simp; omega)) (by unfold maxLen; first | omega | (simp; omega)) (by first | exact HZ.out | exact HZ2.out) ?_; intro v6 wv6 ho hg hb; have Hv6 := Lib.hid ho; have Bv6 := Lib.hid hb; have HZ2 := Lib.hid hb.size
                             clear ho hg hb))
       go_roundg (l.length - (k + 1))
       case measure => omega
       case rel => exact ⟨k + 1, true, O ++ [x], by omega, rfl, by go_num, Lib.hid ⟨by simp; omega, fun h => by simp at h⟩, Hv6.out, HB.out.trans Bv6.out⟩
      | false =>
       obtain ⟨c, hcc⟩ : ∃ c, ltL (codes s) (codes x) = c := ⟨_, rfl⟩; have HBF := Lib.hid (Before_gr s x wo HSZ.out HXZ.out); rw [hcc] at HBF; have HCC := Lib.hid hcc; have c0 := HC.out wo (Below.refl _ _); clear hcc hc
       cases c with
       | true =>
        go_wp2_with (first
         | (go_at_call 99
            with_reducible refine HBF.out.mono ?_
            rintro e w1 ⟨rfl, hg1⟩; have HG1 := Lib.hid hg1.below; have c1 := HC.out w1 HG1.out; have HO1 := Lib.hid (HOW.out.below HG1.out); have HZ1 := Lib.hid (Nat.le_trans HZ.out HG1.out.size); have HC2 := Lib.hid (show ∀ w', Below w.heap.size w1 w' → w'.cell? ⟨b, off + k, none⟩ = some (.string x) from fun w' hw => (hw.cell (p := ⟨b, off + k, none⟩) HBK.out).trans (HC.out w1 HG1.out))
            clear hg1 c0)
         | (at_builtin
            refine wpList_append_one (.tmp 31) (.tmp 33) rfl 87 rfl slStrR rfl HO1.out rfl (S := fun _ => False) (y := s) ⟨rfl, HSZ.out⟩ (fun _ h => h.elim) (by omega) (by unfold maxLen; omega) HZ1.out ?_; intro v2 w2 ho2 hg2 hb2; have HO2 := Lib.hid ho2; have HB2 := Lib.hid (Below.trans (HB.out.trans (HG1.out.mono HZ.out)) hb2); have c2 := HC2.out w2 hb2
            clear ho2 hg2 hb2 c1)
         | (at_builtin
            refine wpList_append_one (.tmp 35) (.tmp 40) rfl 87 rfl slStrR rfl HO2.out rfl (S := fun _ => False) (y := x) ⟨rfl, HXZ.out⟩ (fun _ h => h.elim) (by simp; omega) (by unfold maxLen; simp; omega) HB2.out.size ?_; intro v3 w3 ho3 hg3 hb3; have HO3 := Lib.hid ho3; have HB3 := Lib.hid (HB2.out.trans hb3)
            clear ho3 hg3 hb3 c2))
        go_roundg (l.length - (k + 1))
        case measure => omega
        case rel => exact ⟨k + 1, true, (O ++ [s]) ++ [x], by omega, rfl, by go_num, Lib.hid ⟨by have := HI.out (by trivial); simp; omega, fun h => by simp at h⟩, HO3.out, HB3.out⟩
       | false =>
        go_wp2_with (first
         | (go_at_call 99
            with_reducible refine HBF.out.mono ?_
            rintro e w1 ⟨rfl, hg1⟩; have HG1 := Lib.hid hg1.below; have c1 := HC.out w1 HG1.out; have HO1 := Lib.hid (HOW.out.below HG1.out); have HZ1 := Lib.hid (Nat.le_trans HZ.out HG1.out.size)
            clear hg1 c0)
         | (at_builtin
            refine wpList_append_one (.tmp 35) (.tmp 40) rfl 87 rfl slStrR rfl HO1.out rfl (S := fun _ => False) (y := x) ⟨rfl, HXZ.out⟩ (fun _ h => h.elim) (by omega) (by unfold maxLen; omega) HZ1.out ?_; intro v3 w3 ho3 hg3 hb3; have HO3 := Lib.hid ho3; have HB3 := Lib.hid (Below.trans (HB.out.trans (HG1.out.mono HZ.out)) hb3)
            clear ho3 hg3 hb3 c1))
        go_roundg (l.length - (k + 1))
        case measure => omega
        case rel => exact ⟨k + 1, false, O ++ [x], by omega, rfl, by go_num, Lib.hid ⟨by simp; omega, fun _ => by have := HI.out (by trivial); simp; omega⟩, HO3.out, HB3.out⟩
  · obtain rfl : k = l.length := by omega
    have hkl : ¬ (l.length : Int) < (l.length : Int) := by omega
    clear hlt hk hb hown
    cases d with
    | true =>
     go_wp2; go_ret; exact ⟨⟨_, rfl, O, hOl, HOW.out.sl⟩, HB.out⟩
    | false =>
     have Q3 := Lib.hid (show (O ++ [s]).length ≤ l.length + 1 from by have := HI.out (by trivial); simp; omega)
     go_wp2_with (first
      | (at_builtin
         refine wpList_append_one (.tmp 44) (.tmp 46) rfl 87 rfl slStrR rfl HOW.out rfl (S := fun _ => False) (y := s) ⟨rfl, HSZ.out⟩ (fun _ h => h.elim) (by omega) (by unfold maxLen; omega) HZ.out ?_; intro v3 w3 ho3 hg3 hb3; have HO3 := Lib.hid ho3; have HB3 := Lib.hid (HB.out.trans hb3)
         clear ho3 hg3 hb3))
     go_ret; exact ⟨⟨_, rfl, _, Q3.out, HO3.out.sl⟩, HB3.out⟩
set_option maxRecDepth 100000 in
set_option maxHeartbeats 4000000 in
theorem accountsR_any (l : List Ent) (v : Value) (w : World) (h : SlIs (tEnt 101) (· < w.heap.size) w v l) (hl : l.length ≤ 1000) (hps : ∀ x ∈ l, x.ps.length ≤ 8) :
  Calls Tryz.prog 25 #[.agg #[v]] w fun e w' => (∃ v' O, e = .returned v' ∧ SlIs tStr (· < w'.heap.size) w' v' O) ∧ Below w.heap.size w w' := by
 have HB := Lib.hid (bl_alloc (Below.refl w.heap.size w) (.cells #[v] 68)); have n0 := alloc1_0 w (.cells #[v] 68); obtain ⟨ao, cap, bi, off, rfl, h1, h2, ho⟩ := ent_open h; unfold maxLen at h2; have HO := Lib.hid ho; have HN := Lib.hid n0; have HPS := Lib.hid hps; clear h ho n0 hps
 go_enter Tryz.func25, Tryz.ntmps25
 go_upto_region 1 with (fail)
 generalize w.alloc (.cells #[.slice ao l.length cap] 68) = w0 at HB HN ⊢; have hl0 := lt_of_heap HN.out; go_wp2
 go_loopg [3, 4] l.length (fun g ov i wr => ∃ (k : Nat) (O : List ByteArray), k + g = l.length ∧ i = .int .i64 k ∧ SlIs tStr (· < wr.heap.size) wr ov O ∧ O.length ≤ 8 * k ∧ Hid (Below w0.heap.size w0 wr))
 case atStart => exact ⟨0, [], by omega, rfl, SlIs.nil, by simp, Lib.hid (Below.refl _ _)⟩
 case round =>
  obtain ⟨k, O, hk, rfl, hso, hol, HBW⟩ := hrel; have HWW := Lib.hid (bl_trans HB.out HBW.out); obtain ⟨oa, oc, _, _, rfl, -⟩ := id hso; have HSO := Lib.hid hso; have d0 : wr.cell? ⟨w.heap.size, 0, none⟩ = some (.slice ao l.length cap) := cell_of_row _ _ 0 _ _ _ ((HBW.out.block _ hl0).trans HN.out); clear hso
  by_cases hlt : k < l.length
  · obtain ⟨rfl, -, hbi, hok, hv, hsl, c0, c1, c2⟩ := HO.out wr (.of_below HWW.out) k hlt
    have hp8 := HPS.out _ (List.getElem_mem hlt); have k0 : (0 : Int) ≤ (k : Int) := by omega
    have k1 : (k : Int) < (l.length : Int) := by omega
    generalize l[k] = y at *; have hbk : bi < wr.heap.size := Nat.lt_of_lt_of_le hbi HWW.out.size; have HC2 := Lib.hid (show ∀ w', Below wr.heap.size wr w' → w'.cell? ⟨bi, off + k * 3 + 2, none⟩ = some hv from fun w' hw => (hw.cell (p := ⟨bi, off + k * 3 + 2, none⟩) hbk).trans c2); have hsl2 : SlIs tSI (· < wr.heap.size) wr hv y.ps := hsl.keep (fun q (hq : q < w.heap.size) => Nat.lt_of_lt_of_le hq HWW.out.size) (SameOn.refl _ _); obtain ⟨a2, c2', b2, o2, rfl, h21, h22, ho2⟩ := si_open hsl2; unfold maxLen at h22; have HO2 := Lib.hid ho2; have hlw : w.heap.size < wr.heap.size := by have := HBW.out.size; omega
    have HD0 := Lib.hid (show ∀ w', Below wr.heap.size wr w' → w'.cell? ⟨w.heap.size, 0, none⟩ = some (.slice (some ⟨bi, off, none⟩) l.length cap) from fun w' hw => (hw.cell (p := ⟨w.heap.size, 0, none⟩) hlw).trans d0); obtain ⟨wo, rfl⟩ : ∃ wo : World, wo = wr := ⟨_, rfl⟩; clear hsl hsl2 ho2 hok c0 c1 c2; go_wp2; clear d0
    go_loopg [3, 5] y.ps.length (fun g ov i wr => ∃ (j : Nat) (U : List ByteArray), j + g = y.ps.length ∧ i = .int .i64 j ∧ SlIs tStr (· < wr.heap.size) wr ov U ∧ U.length ≤ 8 * k + j ∧ Hid (Below wo.heap.size wo wr))
    case atStart => exact ⟨0, O, by omega, rfl, HSO.out, by omega, Lib.hid (Below.refl _ _)⟩
    case round =>
     obtain ⟨j, U, hj, rfl, hsu, hul, HBV⟩ := hrel; obtain ⟨ua, uc, _, _, rfl, -⟩ := id hsu; have HSU := Lib.hid hsu; clear hsu; have d0 := HD0.out wr HBV.out; have c2 := HC2.out wr HBV.out
     by_cases hlt2 : j < y.ps.length
     · obtain ⟨rfl, -, hb2, hop, e0, e1⟩ := HO2.out wr (.of_below HBV.out) j hlt2
       have j0 : (0 : Int) ≤ (j : Int) := by omega
       have j1 : (j : Int) < (y.ps.length : Int) := by omega
       have hsz := hop.s; generalize y.ps[j] = p at *; obtain ⟨xs, xn⟩ := p; simp only at e0 hsz; have HHT := Lib.hid (hasText_any U xs _ wr HSU.out); have hlwr : wo.heap.size ≤ wr.heap.size := HBV.out.size; have HE0 := Lib.hid (show ∀ w', Below wr.heap.size wr w' → w'.cell? ⟨b2, o2 + j * 2, none⟩ = some (.string xs) from fun w' hw => (hw.cell (p := ⟨b2, o2 + j * 2, none⟩) (Nat.lt_of_lt_of_le hb2 hlwr)).trans e0); clear hop e1
       go_wp2_with (fail)
       with_reducible refine HHT.out.mono ?_
       clear HHT; rintro r w5 ⟨⟨q, rfl⟩, hb5⟩; have HB5 := Lib.hid hb5; have HBV5 := Lib.hid (bl_trans HBV.out hb5); have HSU5 := Lib.hid (HSU.out.step hb5); clear hb5 d0 c2 e0; have d0 := HD0.out w5 HBV5.out; have c2 := HC2.out w5 HBV5.out; have e0 := HE0.out w5 HB5.out
       cases q with
       | true =>
        go_wp2
        go_roundg (y.ps.length - (j + 1))
        case measure => omega
        case rel => exact ⟨j + 1, U, by omega, by go_num, HSU5.out, by omega, HBV5⟩
       | false =>
        have HIN := Lib.hid (insertR_any U xs _ w5 HSU5.out (by omega) hsz)
        go_wp2_with (fail)
        with_reducible refine HIN.out.mono ?_
        clear HIN; rintro r w6 ⟨⟨v6, rfl, U6, hu6, hs6⟩, hb6⟩; have HS6 := Lib.hid hs6; have HB6 := Lib.hid (bl_trans HBV5.out hb6); clear hs6 hb6; go_wp2
        go_roundg (y.ps.length - (j + 1))
        case measure => omega
        case rel => exact ⟨j + 1, U6, by omega, by go_num, HS6.out, by omega, HB6⟩
     · have hjd : decide ((j : Int) < (y.ps.length : Int)) = false := by simp; omega
       have HBO := Lib.hid (bl_trans HBW.out HBV.out); go_wp2
       go_roundg (l.length - (k + 1))
       case measure => omega
       case rel => exact ⟨k + 1, U, by omega, by go_num, HSU.out, by omega, HBO⟩
  · have hkd : decide ((k : Int) < (l.length : Int)) = false := by simp; omega
    go_wp2; go_ret; exact ⟨⟨_, O, rfl, HSO.out⟩, HWW.out⟩
end Go.Proofs.YtifcelebfagjbaaGreatDoor
namespace Go.Proofs.YtifcelebfagjbaaGreatDoor
open Go.RowKit Go.Tw Go.Tw.Plate
theorem slU8 : SlT Tryz.prog 211 5 1 1 := SlT.of (z := .int .u8 0) Tryz.underlying211 (by kernel_rfl) rfl (by decide)
theorem ret_norm {a : ByteArray} {b : Int} {o : ByteArray × Int} (h : o = (a, b)) : Ending.returned (.tuple #[.string a, .int .i64 b]) = .returned (.tuple #[.string o.1, .int .i64 o.2]) := by rw [h]
theorem conv_out {w : World} {B : Nat} {v : Value} {out : List Int} (h : OwnSl tU8 5 B w v out) (h0 : 0 < out.length) : (convert 211 9 v).run Tryz.prog w = .ok (.string (strOfNums out)) w := by
 obtain ⟨ao, cap, b, off, rfl, h1, h2, h3⟩ := h.sl.openS
 have := run_convert_bytes_arg (P := Tryz.prog) w 211 5 Tryz.underlying211 Tryz.underlying5 b off out.length cap out rfl (fun i hi => by
  obtain ⟨_, _, _, cs, g1, rfl, _⟩ := h3 w (SameOn.refl _ _) i hi; have := g1 0 (by decide); simp [tU8] at this
  rw [this, List.getD_eq_getElem?_getD, List.getElem?_eq_getElem hi]; rfl) 9 Tryz.underlying9
 obtain ⟨rfl, _⟩ := h3 w (SameOn.refl _ _) 0 h0; exact this
theorem ten (n : Nat) : (Hid (n = 10) ∧ ((n : Int) == 10) = true) ∨ (Hid (¬ n = 10) ∧ ((n : Int) == 10) = false) := by
 by_cases h : n = 10
 · exact .inl ⟨Lib.hid h, by simp; omega⟩
 · exact .inr ⟨Lib.hid h, by simp; omega⟩
set_option maxRecDepth 100000 in
set_option maxHeartbeats 2000000 in
theorem NormalR_any (s : ByteArray) (w : World) (hs : s.size ≤ 140737488351232) :
  Calls Tryz.prog 132 #[.string s] w fun e w' => e = .returned (.tuple #[.string (normS (normGoR [] (codes s))).1, .int .i64 (normS (normGoR [] (codes s))).2]) ∧ Below w.heap.size w w' := by
 go_enter Tryz.func132, Tryz.ntmps132
 go_wp2
 go_loopg [5, 4] s.size (fun g i v wr => ∃ (k : Nat) (out : List Int), k + g = s.size ∧ i = .int .i64 k ∧ normGoR [] (codes s) = normGoR out ((codes s).drop k) ∧ out.length ≤ k ∧ (∀ x ∈ out, isByte x) ∧ OwnSl tU8 5 w.heap.size wr v out ∧ Below w.heap.size w wr)
 case atStart => exact ⟨0, [], by omega, rfl, rfl, by simp, by simp, OwnSl.nil _ _ _ _, Below.refl _ _⟩
 case round =>
  obtain ⟨k, out, hk, rfl, he, ho, hby, hown, hb1⟩ := hrel; have HE := Lib.hid he; clear he
  have HB := Lib.hid hby; clear hby
  have HO := Lib.hid hown; obtain ⟨ao, cap, rfl, ho1, ho2⟩ := hown.form; unfold maxLen at ho2; have HC := Lib.hid (conv_out hown); clear hown
  by_cases hlt : k < s.size
  · have k0 : (0 : Int) ≤ (k : Int) := by omega
    have k1 : (k : Int) < (s.size : Int) := by omega
    have hkl : k < (codes s).length := by rw [codes_len]; exact hlt
    have hsb := hb1.size; have b2 : 0 ≤ (s[k].toNat : Int) := by omega
    have b3 : (s[k].toNat : Int) ≤ 255 := by have := s[k].toNat_lt; omega
    rcases norm_ways (out := out) hkl (codes_get s hlt) with ⟨a1, a2, N, NR⟩ | ⟨a1, a2, a3, N, NR⟩ | ⟨a1, a2, a3, a4, a5, a6, a7, a8, N, NR⟩ | ⟨a1, a2, a3, a4, a5, N, NR⟩ | ⟨a1, a2, a3, a4, a5, a6, N, NR⟩ | ⟨a1, a2, a3, a4, a5, N, NR⟩ | ⟨a1, a2, a3, a4, a5, a6, N, NR⟩ | ⟨a1, a2, a3, a4, a5, a6, a7, N, NR⟩ | ⟨a1, a2, a3, a4, a5, a6, a7, a8, N, NR⟩
    all_goals
     have HN := Lib.hid N; have HNR := Lib.hid NR; clear N NR
    all_goals
     first
      | (have z1 : decide ((s[k].toNat : Int) ≤ 57) = false := by (simp; omega))
      | skip
     first
      | (have z2 : decide ((s[k].toNat : Int) ≤ 90) = false := by (simp; omega))
      | skip
    all_goals
     rcases ten out.length with ⟨hq, hq'⟩ | ⟨hq, hq'⟩
    all_goals
     go_wp2_with (
      at_builtin
      refine wpList_append_one (.tmp 45) (.tmp 47) rfl 211 rfl slU8 rfl HO.out rfl (S := fun _ => False) ⟨rfl, by omega, by omega⟩ (fun _ h => h.elim) (by omega) (by unfold maxLen; omega) hsb ?_
      intro v' w2 ho2 hg2 hb2)
    all_goals first
     | (go_ret2
        exact ⟨ret_norm (by rw [HE.out, HNR.out]; first | rfl | (rw [if_pos hq.out]; rfl)), hb1⟩)
     | (go_roundg (s.size - (k + 1))
        case measure => omega
        case rel => exact ⟨k + 1, out, by omega, by go_num, HE.out.trans HNR.out, by omega, HB.out, HO.out, hb1⟩)
     | (go_roundg (s.size - (k + 1))
        case measure => omega
        case rel =>
         refine ⟨k + 1, out ++ [_], by omega, by go_num, HE.out.trans (HNR.out.trans (by first | exact if_neg hq.out | rfl)), by have := hq.out; simp; omega, fun x hx => ?_, ho2, hb1.trans hb2⟩
         rcases List.mem_append.1 hx with hx | hx
         · exact HB.out x hx
         · simp at hx; subst hx; unfold isByte; omega)
  · by_cases h2 : out.length < 2
    · have h2' : (out.length : Int) < 2 := by omega
      go_wp2
      all_goals
       go_ret2; exact ⟨ret_norm (by rw [HE.out, normGoR_end (by rw [codes_len]; omega), if_pos (.inl h2)]; rfl), hb1⟩
    · have h2' : ¬ (out.length : Int) < 2 := by omega
      by_cases h3 : 10 < out.length
      · have h3' : (10 : Int) < (out.length : Int) := by omega
        go_wp2
        all_goals
         go_ret2; exact ⟨ret_norm (by rw [HE.out, normGoR_end (by rw [codes_len]; omega), if_pos (.inr h3)]; rfl), hb1⟩
      · have h3' : ¬ (10 : Int) < (out.length : Int) := by omega
        have hcv := HC.out (by omega); go_wp2
        all_goals
         go_ret2; exact ⟨ret_norm (by rw [HE.out, normGoR_end (by rw [codes_len]; omega), if_neg (by omega)]; rfl), hb1⟩
end Go.Proofs.YtifcelebfagjbaaGreatDoor
namespace Go.Tw.Po
open Go.RowKit Go.Tw
def conflB (a b : Ow) : Bool := decide (a.tag = b.tag) && (decide (a.plt = b.plt) && (validI a.fr a.to && (validI b.fr b.to && (decide (a.fr < b.to) && decide (b.fr < a.to)))))
def PltOk (l : List Ow) : Prop := ∀ o ∈ l, o.plt.size ≤ 140737488351232
end Go.Tw.Po
namespace Go.Proofs.YtifcelebfagjbaaGreatDoor
open Go.RowKit Go.Tw Go.Tw.Ord Go.Tw.Po Go.Sort Go.Tw.Plate
def NmB (s : ByteArray) (e : Ending) : Prop := ∃ b, e = .returned (.bool b) ∧ (b = true → s.size ≤ 12)
def ChkI (p : Prop) (e : Ending) : Prop := ∃ n, e = .returned (.int .i64 n) ∧ (n = 0 → p)
set_option maxRecDepth 100000 in
set_option maxHeartbeats 2000000 in
theorem isName_any (s : ByteArray) (w : World) : Calls Tryz.prog 100 #[.string s] w fun e w' => NmB s e ∧ Below w.heap.size w w' := by
 by_cases h0 : s.size = 0
 · have hlt : (s.size : Int) < 1 := by omega
   go_enter Tryz.func100, Tryz.ntmps100
   go_wp2; go_ret; exact ⟨⟨_, rfl, fun h => by cases h⟩, Below.refl _ _⟩
 have hn1 : ¬ (s.size : Int) < 1 := by omega
 by_cases h12 : 12 < s.size
 · have hlt : (12 : Int) < (s.size : Int) := by omega
   go_enter Tryz.func100, Tryz.ntmps100
   go_wp2; go_ret; exact ⟨⟨_, rfl, fun h => by cases h⟩, Below.refl _ _⟩
 have hle : ¬ (12 : Int) < (s.size : Int) := by omega
 have hs0 : (0 : Int) < (s.size : Int) := by omega
 have HSZ := Lib.hid (show s.size ≤ 12 by omega); have hp : 0 < s.size := by omega
 by_cases ha : s[0].toNat < 97
 · have g1 : (s[0].toNat : Int) < 97 := by omega
   clear ha
   go_enter Tryz.func100, Tryz.ntmps100
   go_wp2; go_ret; exact ⟨⟨_, rfl, fun h => by cases h⟩, Below.refl _ _⟩
 have g1 : ¬ (s[0].toNat : Int) < 97 := by omega
 by_cases hb : 122 < s[0].toNat
 · have g2 : (122 : Int) < (s[0].toNat : Int) := by omega
   clear ha hb
   go_enter Tryz.func100, Tryz.ntmps100
   go_wp2; go_ret; exact ⟨⟨_, rfl, fun h => by cases h⟩, Below.refl _ _⟩
 have g2 : ¬ (122 : Int) < (s[0].toNat : Int) := by omega
 clear ha hb
 go_enter Tryz.func100, Tryz.ntmps100
 go_wp2; clear g1 g2
 go_loopg [3] s.size (fun g i wr => ∃ k : Nat, k + g = s.size ∧ i = .int .i64 k ∧ w = wr)
 case atStart => exact ⟨0, by omega, rfl, rfl⟩
 case round =>
  obtain ⟨k, hk, rfl, rfl⟩ := hrel
  by_cases hlt : k < s.size
  case neg =>
   go_wp2; go_ret; exact ⟨⟨_, rfl, fun _ => HSZ.out⟩, Below.refl _ _⟩
  have k0 : (0 : Int) ≤ (k : Int) := by omega
  have k1 : (k : Int) < (s.size : Int) := by omega
  have hb := s[k].toNat_lt; obtain ⟨b, hbb⟩ : ∃ b : Nat, b = s[k].toNat := ⟨_, rfl⟩; have hz : (97 ≤ b ∧ b ≤ 122) ∨ (b = 45) ∨ (48 ≤ b ∧ b ≤ 57) ∨ (b < 48 ∧ b ≠ 45) ∨ (57 < b ∧ b < 97) ∨ (122 < b) := by omega
  rcases hz with ⟨q1, q2⟩ | q1 | ⟨q1, q2⟩ | ⟨q1, q2⟩ | ⟨q1, q2⟩ | q1
  · have g1 : (97 : Int) ≤ (s[k].toNat : Int) := by omega
    have g2 : (s[k].toNat : Int) ≤ 122 := by omega
    clear q1 hb hbb
    (try clear q2)
    go_wp2
    go_roundg (s.size - (k + 1))
    case measure => omega
    case rel => exact ⟨k + 1, by omega, by go_num, rfl⟩
  · have g1 : (s[k].toNat : Int) < 97 := by omega
    have g3 : (s[k].toNat : Int) < 48 := by omega
    have g5 : ((s[k].toNat : Int) == 45) = true := by simp; omega
    clear q1 hb hbb
    (try clear q2)
    go_wp2
    go_roundg (s.size - (k + 1))
    case measure => omega
    case rel => exact ⟨k + 1, by omega, by go_num, rfl⟩
  · have g1 : (s[k].toNat : Int) < 97 := by omega
    have g3 : (48 : Int) ≤ (s[k].toNat : Int) := by omega
    have g4 : (s[k].toNat : Int) ≤ 57 := by omega
    clear q1 hb hbb
    (try clear q2)
    go_wp2
    go_roundg (s.size - (k + 1))
    case measure => omega
    case rel => exact ⟨k + 1, by omega, by go_num, rfl⟩
  · have g1 : (s[k].toNat : Int) < 97 := by omega
    have g3 : (s[k].toNat : Int) < 48 := by omega
    have g5 : ((s[k].toNat : Int) == 45) = false := by simp; omega
    clear q1 hb hbb
    (try clear q2)
    go_wp2; go_ret; exact ⟨⟨_, rfl, fun h => by cases h⟩, Below.refl _ _⟩
  · have g1 : (s[k].toNat : Int) < 97 := by omega
    have g3 : (48 : Int) ≤ (s[k].toNat : Int) := by omega
    have g4 : decide ((s[k].toNat : Int) ≤ 57) = false := by simp; omega
    have g5 : ((s[k].toNat : Int) == 45) = false := by simp; omega
    clear q1 hb hbb
    (try clear q2)
    go_wp2; go_ret; exact ⟨⟨_, rfl, fun h => by cases h⟩, Below.refl _ _⟩
  · have g1 : (97 : Int) ≤ (s[k].toNat : Int) := by omega
    have g2 : decide ((s[k].toNat : Int) ≤ 122) = false := by simp; omega
    have g3 : (48 : Int) ≤ (s[k].toNat : Int) := by omega
    have g4 : decide ((s[k].toNat : Int) ≤ 57) = false := by simp; omega
    have g5 : ((s[k].toNat : Int) == 45) = false := by simp; omega
    clear q1 hb hbb
    (try clear q2)
    go_wp2; go_ret; exact ⟨⟨_, rfl, fun h => by cases h⟩, Below.refl _ _⟩
structure CFW (n : Nat) (a b : Ow) (wr : World) : Prop where
 b0 : wr.heap[n]? = some (.cells #[.string a.tag, .string a.plt, .int .i64 a.fr, .int .i64 a.to] 138 (0, 0))
 b1 : wr.heap[n + 1]? = some (.cells #[.string b.tag, .string b.plt, .int .i64 b.fr, .int .i64 b.to] 138 (0, 0))
theorem CFW.step {n B : Nat} {a b : Ow} {w w' : World} (h : CFW n a b w) (hb : Below B w w') (hB : n + 1 < B) : CFW n a b w' :=
 ⟨(hb.block _ (by omega)).trans h.b0, (hb.block _ (by omega)).trans h.b1⟩
theorem blk4 {w : World} {g : Nat} {a b c d : Value} {t : TypeId} (H : w.heap[g]? = some (.cells #[a, b, c, d] t (0, 0))) : w.cell? ⟨g, 0, none⟩ = some a ∧ w.cell? ⟨g, 1, none⟩ = some b ∧ w.cell? ⟨g, 2, none⟩ = some c ∧ w.cell? ⟨g, 3, none⟩ = some d :=
 ⟨cell_of_row _ _ 0 _ _ _ H, cell_of_row _ _ 1 _ _ _ H, cell_of_row _ _ 2 _ _ _ H, cell_of_row _ _ 3 _ _ _ H⟩
set_option maxRecDepth 100000 in
set_option maxHeartbeats 4000000 in
theorem conflict_any (a b : Ow) (w : World) : Calls Tryz.prog 102 #[.agg #[.string a.tag, .string a.plt, .int .i64 a.fr, .int .i64 a.to], .agg #[.string b.tag, .string b.plt, .int .i64 b.fr, .int .i64 b.to]] w fun e w' => e = .returned (.bool (conflB a b)) ∧ Below w.heap.size w w' := by
 have n0 := alloc2_0 w (.cells #[.string a.tag, .string a.plt, .int .i64 a.fr, .int .i64 a.to] 138) (.cells #[.string b.tag, .string b.plt, .int .i64 b.fr, .int .i64 b.to] 138); have n1 := alloc2_1 w (.cells #[.string a.tag, .string a.plt, .int .i64 a.fr, .int .i64 a.to] 138) (.cells #[.string b.tag, .string b.plt, .int .i64 b.fr, .int .i64 b.to] 138); have HC0 := Lib.hid (show CFW w.heap.size a b _ from ⟨n0, n1⟩); have HB0 := Lib.hid (bl_alloc (bl_alloc (Below.refl w.heap.size w) (.cells #[.string a.tag, .string a.plt, .int .i64 a.fr, .int .i64 a.to] 138)) (.cells #[.string b.tag, .string b.plt, .int .i64 b.fr, .int .i64 b.to] 138)); obtain ⟨x0, x1, x2, x3⟩ := blk4 n0; obtain ⟨y0, y1, y2, y3⟩ := blk4 n1; have HV1 := Lib.hid (fun W => isSpan_any a.fr a.to W); have HV2 := Lib.hid (fun W => isSpan_any b.fr b.to W); clear n0 n1; obtain ⟨p1, h1⟩ : ∃ p, (a.tag.toList == b.tag.toList) = p := ⟨_, rfl⟩; obtain ⟨p2, h2⟩ : ∃ p, (a.plt.toList == b.plt.toList) = p := ⟨_, rfl⟩; obtain ⟨p3, h3⟩ : ∃ p, validI a.fr a.to = p := ⟨_, rfl⟩; obtain ⟨p4, h4⟩ : ∃ p, validI b.fr b.to = p := ⟨_, rfl⟩; obtain ⟨p5, h5⟩ : ∃ p, decide (a.fr < b.to) = p := ⟨_, rfl⟩; obtain ⟨p6, h6⟩ : ∃ p, decide (b.fr < a.to) = p := ⟨_, rfl⟩; have HR := Lib.hid (show conflB a b = (p1 && (p2 && (p3 && (p4 && (p5 && p6))))) by unfold conflB; rw [← eq_str, ← eq_str, h1, h2, h3, h4, h5, h6]); rw [h3] at HV1; rw [h4] at HV2; clear h3 h4
 go_enter Tryz.func102, Tryz.ntmps102
 cases p1 with
 | false =>
  clear h2 h5 h6
  go_wp2_with (go_at_call 133
               first
               | (with_reducible refine (HV1.out _).mono ?_
                  rintro e w2 ⟨rfl, hb2⟩; have HB2 := Lib.hid (bl_trans HB0.out hb2); have HC2 := Lib.hid (HC0.out.step hb2 (by simp)); clear hb2 x0 x1 x2 x3 y0 y1 y2 y3; obtain ⟨x0, x1, x2, x3⟩ := blk4 HC2.out.b0
                  obtain ⟨y0, y1, y2, y3⟩ := blk4 HC2.out.b1)
               | (with_reducible refine (HV2.out _).mono ?_
                  rintro e w3 ⟨rfl, hb3⟩; have HB3 := Lib.hid (bl_trans HB2.out hb3); have HC3 := Lib.hid (HC2.out.step hb3 (lt_of_heap HC2.out.b1)); clear hb3 x0 x1 x2 x3 y0 y1 y2 y3; obtain ⟨x0, x1, x2, x3⟩ := blk4 HC3.out.b0
                  obtain ⟨y0, y1, y2, y3⟩ := blk4 HC3.out.b1))
  go_ret; exact ⟨ret_bool HR.out, by first | exact HB3.out | exact HB2.out | exact HB0.out⟩
 | true =>
 cases p2 with
 | false =>
  clear h5 h6
  go_wp2_with (go_at_call 133
               first
               | (with_reducible refine (HV1.out _).mono ?_
                  rintro e w2 ⟨rfl, hb2⟩; have HB2 := Lib.hid (bl_trans HB0.out hb2); have HC2 := Lib.hid (HC0.out.step hb2 (by simp)); clear hb2 x0 x1 x2 x3 y0 y1 y2 y3; obtain ⟨x0, x1, x2, x3⟩ := blk4 HC2.out.b0
                  obtain ⟨y0, y1, y2, y3⟩ := blk4 HC2.out.b1)
               | (with_reducible refine (HV2.out _).mono ?_
                  rintro e w3 ⟨rfl, hb3⟩; have HB3 := Lib.hid (bl_trans HB2.out hb3); have HC3 := Lib.hid (HC2.out.step hb3 (lt_of_heap HC2.out.b1)); clear hb3 x0 x1 x2 x3 y0 y1 y2 y3; obtain ⟨x0, x1, x2, x3⟩ := blk4 HC3.out.b0
                  obtain ⟨y0, y1, y2, y3⟩ := blk4 HC3.out.b1))
  go_ret; exact ⟨ret_bool HR.out, by first | exact HB3.out | exact HB2.out | exact HB0.out⟩
 | true =>
 cases p3 with
 | false =>
  clear h5 h6
  go_wp2_with (go_at_call 133
               first
               | (with_reducible refine (HV1.out _).mono ?_
                  rintro e w2 ⟨rfl, hb2⟩; have HB2 := Lib.hid (bl_trans HB0.out hb2); have HC2 := Lib.hid (HC0.out.step hb2 (by simp)); clear hb2 x0 x1 x2 x3 y0 y1 y2 y3; obtain ⟨x0, x1, x2, x3⟩ := blk4 HC2.out.b0
                  obtain ⟨y0, y1, y2, y3⟩ := blk4 HC2.out.b1)
               | (with_reducible refine (HV2.out _).mono ?_
                  rintro e w3 ⟨rfl, hb3⟩; have HB3 := Lib.hid (bl_trans HB2.out hb3); have HC3 := Lib.hid (HC2.out.step hb3 (lt_of_heap HC2.out.b1)); clear hb3 x0 x1 x2 x3 y0 y1 y2 y3; obtain ⟨x0, x1, x2, x3⟩ := blk4 HC3.out.b0
                  obtain ⟨y0, y1, y2, y3⟩ := blk4 HC3.out.b1))
  go_ret; exact ⟨ret_bool HR.out, by first | exact HB3.out | exact HB2.out | exact HB0.out⟩
 | true =>
 cases p4 with
 | false =>
  clear h5 h6
  go_wp2_with (go_at_call 133
               first
               | (with_reducible refine (HV1.out _).mono ?_
                  rintro e w2 ⟨rfl, hb2⟩; have HB2 := Lib.hid (bl_trans HB0.out hb2); have HC2 := Lib.hid (HC0.out.step hb2 (by simp)); clear hb2 x0 x1 x2 x3 y0 y1 y2 y3; obtain ⟨x0, x1, x2, x3⟩ := blk4 HC2.out.b0
                  obtain ⟨y0, y1, y2, y3⟩ := blk4 HC2.out.b1)
               | (with_reducible refine (HV2.out _).mono ?_
                  rintro e w3 ⟨rfl, hb3⟩; have HB3 := Lib.hid (bl_trans HB2.out hb3); have HC3 := Lib.hid (HC2.out.step hb3 (lt_of_heap HC2.out.b1)); clear hb3 x0 x1 x2 x3 y0 y1 y2 y3; obtain ⟨x0, x1, x2, x3⟩ := blk4 HC3.out.b0
                  obtain ⟨y0, y1, y2, y3⟩ := blk4 HC3.out.b1))
  go_ret; exact ⟨ret_bool HR.out, by first | exact HB3.out | exact HB2.out | exact HB0.out⟩
 | true =>
 cases p5 with
 | false => go_wp2_with (go_at_call 133
                         first
                         | (with_reducible refine (HV1.out _).mono ?_
                            rintro e w2 ⟨rfl, hb2⟩; have HB2 := Lib.hid (bl_trans HB0.out hb2); have HC2 := Lib.hid (HC0.out.step hb2 (by simp)); clear hb2 x0 x1 x2 x3 y0 y1 y2 y3; obtain ⟨x0, x1, x2, x3⟩ := blk4 HC2.out.b0
                            obtain ⟨y0, y1, y2, y3⟩ := blk4 HC2.out.b1)
                         | (with_reducible refine (HV2.out _).mono ?_
                            rintro e w3 ⟨rfl, hb3⟩; have HB3 := Lib.hid (bl_trans HB2.out hb3); have HC3 := Lib.hid (HC2.out.step hb3 (lt_of_heap HC2.out.b1)); clear hb3 x0 x1 x2 x3 y0 y1 y2 y3; obtain ⟨x0, x1, x2, x3⟩ := blk4 HC3.out.b0
                            obtain ⟨y0, y1, y2, y3⟩ := blk4 HC3.out.b1))
            go_ret; exact ⟨ret_bool HR.out, by first | exact HB3.out | exact HB2.out | exact HB0.out⟩
 | true =>
 cases p6 with
 | false => go_wp2_with (go_at_call 133
                         first
                         | (with_reducible refine (HV1.out _).mono ?_
                            rintro e w2 ⟨rfl, hb2⟩; have HB2 := Lib.hid (bl_trans HB0.out hb2); have HC2 := Lib.hid (HC0.out.step hb2 (by simp)); clear hb2 x0 x1 x2 x3 y0 y1 y2 y3; obtain ⟨x0, x1, x2, x3⟩ := blk4 HC2.out.b0
                            obtain ⟨y0, y1, y2, y3⟩ := blk4 HC2.out.b1)
                         | (with_reducible refine (HV2.out _).mono ?_
                            rintro e w3 ⟨rfl, hb3⟩; have HB3 := Lib.hid (bl_trans HB2.out hb3); have HC3 := Lib.hid (HC2.out.step hb3 (lt_of_heap HC2.out.b1)); clear hb3 x0 x1 x2 x3 y0 y1 y2 y3; obtain ⟨x0, x1, x2, x3⟩ := blk4 HC3.out.b0
                            obtain ⟨y0, y1, y2, y3⟩ := blk4 HC3.out.b1))
            go_ret; exact ⟨ret_bool HR.out, by first | exact HB3.out | exact HB2.out | exact HB0.out⟩
 | true => go_wp2_with (go_at_call 133
                        first
                        | (with_reducible refine (HV1.out _).mono ?_
                           rintro e w2 ⟨rfl, hb2⟩; have HB2 := Lib.hid (bl_trans HB0.out hb2); have HC2 := Lib.hid (HC0.out.step hb2 (by simp)); clear hb2 x0 x1 x2 x3 y0 y1 y2 y3; obtain ⟨x0, x1, x2, x3⟩ := blk4 HC2.out.b0
                           obtain ⟨y0, y1, y2, y3⟩ := blk4 HC2.out.b1)
                        | (with_reducible refine (HV2.out _).mono ?_
                           rintro e w3 ⟨rfl, hb3⟩; have HB3 := Lib.hid (bl_trans HB2.out hb3); have HC3 := Lib.hid (HC2.out.step hb3 (lt_of_heap HC2.out.b1)); clear hb3 x0 x1 x2 x3 y0 y1 y2 y3; obtain ⟨x0, x1, x2, x3⟩ := blk4 HC3.out.b0
                           obtain ⟨y0, y1, y2, y3⟩ := blk4 HC3.out.b1))
           go_ret; exact ⟨ret_bool HR.out, by first | exact HB3.out | exact HB2.out | exact HB0.out⟩
set_option maxRecDepth 100000 in
set_option maxHeartbeats 2000000 in
theorem conflicts_any (l : List Ow) (v : Value) (o : Ow) (w : World) (h : SlIs tOw (· < w.heap.size) w v l) :
  Calls Tryz.prog 61 #[v, .agg #[.string o.tag, .string o.plt, .int .i64 o.fr, .int .i64 o.to]] w fun e w' => e = .returned (.bool (l.any fun a => conflB a o)) ∧ Below w.heap.size w w' := by
 have n0 := alloc1_0 w (.cells #[.string o.tag, .string o.plt, .int .i64 o.fr, .int .i64 o.to] 138); have HB0 := Lib.hid (bl_alloc (Below.refl w.heap.size w) (.cells #[.string o.tag, .string o.plt, .int .i64 o.fr, .int .i64 o.to] 138)); have HN := Lib.hid n0; obtain ⟨ao, cap, bi, off, rfl, hl, hm, ho⟩ := ow_open h; unfold maxLen at hm; have HO := Lib.hid ho; clear h ho n0
 go_enter Tryz.func61, Tryz.ntmps61
 go_wp2; generalize w.alloc (.cells #[.string o.tag, .string o.plt, .int .i64 o.fr, .int .i64 o.to] 138) = w0 at HB0 HN ⊢; have hl0 := lt_of_heap HN.out
 go_loopg [5] l.length (fun g i wr => ∃ k : Nat, k + g = l.length ∧ i = .int .i64 k ∧ Hid (∀ j (hj : j < l.length), j < k → conflB l[j] o = false) ∧ Hid (Below w0.heap.size w0 wr))
 case atStart => exact ⟨0, by omega, rfl, Lib.hid (fun j _ h => by omega), Lib.hid (Below.refl _ _)⟩
 case round =>
  obtain ⟨k, hk, rfl, HT, HBW⟩ := hrel; have HWW := Lib.hid (bl_trans HB0.out HBW.out)
  by_cases hlt : k < l.length
  · obtain ⟨rfl, -, hbi, -, c0, c1, c2, c3⟩ := HO.out wr (.of_below HWW.out) k hlt
    have k0 : (0 : Int) ≤ (k : Int) := by omega
    have k1 : (k : Int) < (l.length : Int) := by omega
    have HG1 := Lib.hid (show ∀ j (hj : j < l.length), j = k → l[j] = l[k] by rintro j hj rfl; rfl); have HY := Lib.hid (show conflB l[k] o = true → (l.any fun a => conflB a o) = true from fun h => List.any_eq_true.2 ⟨_, List.getElem_mem hlt, h⟩); generalize l[k] = y at *; obtain ⟨x0, x1, x2, x3⟩ := blk4 ((HBW.out.block _ hl0).trans HN.out); have b0 := cell_regrown c0; have b1 := cell_regrown c1; have b2 := cell_regrown c2; have b3 := cell_regrown c3; have d0 := cell_regrown x0; have d1 := cell_regrown x1; have d2 := cell_regrown x2; have d3 := cell_regrown x3; obtain ⟨q, hq⟩ : ∃ q, conflB y o = q := ⟨_, rfl⟩; have HQ := Lib.hid hq; have cC := fun d os => Calls.regrown_of (conflict_any y o (grow (redrawn wr d) os))
    rw [hq] at cC; clear hq c0 c1 c2 c3 x0 x1 x2 x3
    go_upto_region 4 with (fail)
    refine wp_region_quiet_below (by kernel_rfl) (by kernel_rfl) ?_
    (repeat (quiet_step (first | (go_at_call 102; with_reducible exact cC _ _))))
    refine wpQuiet_nil ?_; intro _ hw'; obtain ⟨⟨dq, osq⟩, hw''⟩ := hw'; subst hw''; have HGQ := Lib.hid (bl_trans HBW.out (below_regrown wr dq osq)); generalize grow (redrawn wr dq) osq = wq at HGQ ⊢; clear cC b0 b1 b2 b3 d0 d1 d2 d3
    cases q with
    | true =>
     go_wp2; go_ret; exact ⟨ret_bool (HY.out HQ.out), bl_trans HB0.out HGQ.out⟩
    | false =>
     go_wp2
     go_roundg (l.length - (k + 1))
     case measure => omega
     case rel => exact ⟨k + 1, by omega, by go_num, Lib.hid (fun j hj h => by
      by_cases e : j = k
      · rw [HG1.out j hj e]; exact HQ.out
      · exact HT.out j hj (by omega)), HGQ⟩
  · have hkd : decide ((k : Int) < (l.length : Int)) = false := by simp; omega
    have HR := Lib.hid (show (l.any fun a => conflB a o) = false from List.any_eq_false.2 fun x hx => by
     obtain ⟨j, hj, rfl⟩ := List.getElem_of_mem hx; rw [HT.out j hj (by omega)]
     decide)
    go_wp2; go_ret; exact ⟨ret_bool HR.out, HWW.out⟩
set_option maxRecDepth 100000 in
set_option maxHeartbeats 4000000 in
theorem correct_any (o : Ow) (w : World) (hp : o.plt.size ≤ 140737488351232) : Calls Tryz.prog 101 #[.agg #[.string o.tag, .string o.plt, .int .i64 o.fr, .int .i64 o.to]] w fun e w' => ChkI True e ∧ Below w.heap.size w w' := by
 have n0 := alloc1_0 w (.cells #[.string o.tag, .string o.plt, .int .i64 o.fr, .int .i64 o.to] 138); have HB2 := Lib.hid (bl_alloc (Below.refl w.heap.size w) (.cells #[.string o.tag, .string o.plt, .int .i64 o.fr, .int .i64 o.to] 138)); have HN2 := Lib.hid n0; have HTG := Lib.hid (fun (w' : World) => tagCheckR_any o.tag w'); have HNR := Lib.hid (fun (w' : World) => NormalR_any o.plt w' hp); have HSP := Lib.hid (fun (w' : World) => isSpan_any o.fr o.to w'); generalize tagE 18 o.tag = tc at HTG; generalize (normS (normGoR [] (codes o.plt))).1 = ns at HNR; generalize (normS (normGoR [] (codes o.plt))).2 = nc at HNR; generalize validI o.fr o.to = sp at HSP; obtain ⟨x0, x1, x2, x3⟩ := blk4 n0; obtain ⟨p1, h1⟩ : ∃ p, o.tag.toList.isEmpty = p := ⟨_, rfl⟩; obtain ⟨p2, h2⟩ : ∃ p, o.plt.toList.isEmpty = p := ⟨_, rfl⟩; obtain ⟨p3, h3⟩ : ∃ p, (tc != 0) = p := ⟨_, rfl⟩; obtain ⟨p4, h4⟩ : ∃ p, (nc != 0) = p := ⟨_, rfl⟩; obtain ⟨p5, h5⟩ : ∃ p, (ns.toList == o.plt.toList) = p := ⟨_, rfl⟩; clear n0 hp
 go_enter Tryz.func101, Tryz.ntmps101
 cases p1 with
 | true =>
  clear h3
  cases p2 with
  | true =>
   clear h4 h5
   go_wp2_with (first
                | (go_at_call 131
                   with_reducible refine (HTG.out _).mono ?_
                   rintro e w3 ⟨rfl, hb3⟩; have HB3 := Lib.hid (bl_trans HB2.out hb3); have HN3 := Lib.hid ((hb3.block _ (lt_of_heap HN2.out)).trans HN2.out); clear hb3 x0 x1 x2 x3 HB2 HN2; have HB2 := HB3; have HN2 := HN3; clear HB3 HN3
                   obtain ⟨x0, x1, x2, x3⟩ := blk4 HN2.out)
                | (go_at_call 132
                   with_reducible refine (HNR.out _).mono ?_
                   rintro e w4 ⟨rfl, hb4⟩; have HB3 := Lib.hid (bl_trans HB2.out hb4); have HN3 := Lib.hid ((hb4.block _ (lt_of_heap HN2.out)).trans HN2.out); clear hb4 x0 x1 x2 x3 HB2 HN2; have HB2 := HB3; have HN2 := HN3; clear HB3 HN3
                   obtain ⟨x0, x1, x2, x3⟩ := blk4 HN2.out)
                | (go_at_call 133
                   with_reducible refine (HSP.out _).mono ?_
                   rintro e w5 ⟨rfl, hb5⟩; have HB3 := Lib.hid (bl_trans HB2.out hb5); clear hb5 HB2; have HB2 := HB3
                   clear HB3))
   go_ret; exact ⟨⟨_, rfl, fun _ => trivial⟩, HB2.out⟩
  | false =>
   cases p4 with
   | true =>
    clear h5
    go_wp2_with (first
                 | (go_at_call 131
                    with_reducible refine (HTG.out _).mono ?_
                    rintro e w3 ⟨rfl, hb3⟩; have HB3 := Lib.hid (bl_trans HB2.out hb3); have HN3 := Lib.hid ((hb3.block _ (lt_of_heap HN2.out)).trans HN2.out); clear hb3 x0 x1 x2 x3 HB2 HN2; have HB2 := HB3; have HN2 := HN3; clear HB3 HN3
                    obtain ⟨x0, x1, x2, x3⟩ := blk4 HN2.out)
                 | (go_at_call 132
                    with_reducible refine (HNR.out _).mono ?_
                    rintro e w4 ⟨rfl, hb4⟩; have HB3 := Lib.hid (bl_trans HB2.out hb4); have HN3 := Lib.hid ((hb4.block _ (lt_of_heap HN2.out)).trans HN2.out); clear hb4 x0 x1 x2 x3 HB2 HN2; have HB2 := HB3; have HN2 := HN3; clear HB3 HN3
                    obtain ⟨x0, x1, x2, x3⟩ := blk4 HN2.out)
                 | (go_at_call 133
                    with_reducible refine (HSP.out _).mono ?_
                    rintro e w5 ⟨rfl, hb5⟩; have HB3 := Lib.hid (bl_trans HB2.out hb5); clear hb5 HB2; have HB2 := HB3
                    clear HB3))
    go_ret; exact ⟨⟨_, rfl, fun _ => trivial⟩, HB2.out⟩
   | false =>
    cases p5 with
    | false => go_wp2_with (first
                            | (go_at_call 131
                               with_reducible refine (HTG.out _).mono ?_
                               rintro e w3 ⟨rfl, hb3⟩; have HB3 := Lib.hid (bl_trans HB2.out hb3); have HN3 := Lib.hid ((hb3.block _ (lt_of_heap HN2.out)).trans HN2.out); clear hb3 x0 x1 x2 x3 HB2 HN2; have HB2 := HB3; have HN2 := HN3; clear HB3 HN3
                               obtain ⟨x0, x1, x2, x3⟩ := blk4 HN2.out)
                            | (go_at_call 132
                               with_reducible refine (HNR.out _).mono ?_
                               rintro e w4 ⟨rfl, hb4⟩; have HB3 := Lib.hid (bl_trans HB2.out hb4); have HN3 := Lib.hid ((hb4.block _ (lt_of_heap HN2.out)).trans HN2.out); clear hb4 x0 x1 x2 x3 HB2 HN2; have HB2 := HB3; have HN2 := HN3; clear HB3 HN3
                               obtain ⟨x0, x1, x2, x3⟩ := blk4 HN2.out)
                            | (go_at_call 133
                               with_reducible refine (HSP.out _).mono ?_
                               rintro e w5 ⟨rfl, hb5⟩; have HB3 := Lib.hid (bl_trans HB2.out hb5); clear hb5 HB2; have HB2 := HB3
                               clear HB3))
               go_ret; exact ⟨⟨_, rfl, fun _ => trivial⟩, HB2.out⟩
    | true =>
     cases sp with
     | true => go_wp2_with (first
                            | (go_at_call 131
                               with_reducible refine (HTG.out _).mono ?_
                               rintro e w3 ⟨rfl, hb3⟩; have HB3 := Lib.hid (bl_trans HB2.out hb3); have HN3 := Lib.hid ((hb3.block _ (lt_of_heap HN2.out)).trans HN2.out); clear hb3 x0 x1 x2 x3 HB2 HN2; have HB2 := HB3; have HN2 := HN3; clear HB3 HN3
                               obtain ⟨x0, x1, x2, x3⟩ := blk4 HN2.out)
                            | (go_at_call 132
                               with_reducible refine (HNR.out _).mono ?_
                               rintro e w4 ⟨rfl, hb4⟩; have HB3 := Lib.hid (bl_trans HB2.out hb4); have HN3 := Lib.hid ((hb4.block _ (lt_of_heap HN2.out)).trans HN2.out); clear hb4 x0 x1 x2 x3 HB2 HN2; have HB2 := HB3; have HN2 := HN3; clear HB3 HN3
                               obtain ⟨x0, x1, x2, x3⟩ := blk4 HN2.out)
                            | (go_at_call 133
                               with_reducible refine (HSP.out _).mono ?_
                               rintro e w5 ⟨rfl, hb5⟩; have HB3 := Lib.hid (bl_trans HB2.out hb5); clear hb5 HB2; have HB2 := HB3
                               clear HB3))
               go_ret; exact ⟨⟨_, rfl, fun _ => trivial⟩, HB2.out⟩
     | false => go_wp2_with (first
                             | (go_at_call 131
                                with_reducible refine (HTG.out _).mono ?_
                                rintro e w3 ⟨rfl, hb3⟩; have HB3 := Lib.hid (bl_trans HB2.out hb3); have HN3 := Lib.hid ((hb3.block _ (lt_of_heap HN2.out)).trans HN2.out); clear hb3 x0 x1 x2 x3 HB2 HN2; have HB2 := HB3; have HN2 := HN3; clear HB3 HN3
                                obtain ⟨x0, x1, x2, x3⟩ := blk4 HN2.out)
                             | (go_at_call 132
                                with_reducible refine (HNR.out _).mono ?_
                                rintro e w4 ⟨rfl, hb4⟩; have HB3 := Lib.hid (bl_trans HB2.out hb4); have HN3 := Lib.hid ((hb4.block _ (lt_of_heap HN2.out)).trans HN2.out); clear hb4 x0 x1 x2 x3 HB2 HN2; have HB2 := HB3; have HN2 := HN3; clear HB3 HN3
                                obtain ⟨x0, x1, x2, x3⟩ := blk4 HN2.out)
                             | (go_at_call 133
                                with_reducible refine (HSP.out _).mono ?_
                                rintro e w5 ⟨rfl, hb5⟩; have HB3 := Lib.hid (bl_trans HB2.out hb5); clear hb5 HB2; have HB2 := HB3
                                clear HB3))
                go_ret; exact ⟨⟨_, rfl, fun _ => trivial⟩, HB2.out⟩
 | false =>
  cases p2 with
  | false =>
   clear h3 h4 h5
   go_wp2_with (first
                | (go_at_call 131
                   with_reducible refine (HTG.out _).mono ?_
                   rintro e w3 ⟨rfl, hb3⟩; have HB3 := Lib.hid (bl_trans HB2.out hb3); have HN3 := Lib.hid ((hb3.block _ (lt_of_heap HN2.out)).trans HN2.out); clear hb3 x0 x1 x2 x3 HB2 HN2; have HB2 := HB3; have HN2 := HN3; clear HB3 HN3
                   obtain ⟨x0, x1, x2, x3⟩ := blk4 HN2.out)
                | (go_at_call 132
                   with_reducible refine (HNR.out _).mono ?_
                   rintro e w4 ⟨rfl, hb4⟩; have HB3 := Lib.hid (bl_trans HB2.out hb4); have HN3 := Lib.hid ((hb4.block _ (lt_of_heap HN2.out)).trans HN2.out); clear hb4 x0 x1 x2 x3 HB2 HN2; have HB2 := HB3; have HN2 := HN3; clear HB3 HN3
                   obtain ⟨x0, x1, x2, x3⟩ := blk4 HN2.out)
                | (go_at_call 133
                   with_reducible refine (HSP.out _).mono ?_
                   rintro e w5 ⟨rfl, hb5⟩; have HB3 := Lib.hid (bl_trans HB2.out hb5); clear hb5 HB2; have HB2 := HB3
                   clear HB3))
   go_ret; exact ⟨⟨_, rfl, fun _ => trivial⟩, HB2.out⟩
  | true =>
   clear h4 h5
   cases p3 with
   | true => go_wp2_with (first
                          | (go_at_call 131
                             with_reducible refine (HTG.out _).mono ?_
                             rintro e w3 ⟨rfl, hb3⟩; have HB3 := Lib.hid (bl_trans HB2.out hb3); have HN3 := Lib.hid ((hb3.block _ (lt_of_heap HN2.out)).trans HN2.out); clear hb3 x0 x1 x2 x3 HB2 HN2; have HB2 := HB3; have HN2 := HN3; clear HB3 HN3
                             obtain ⟨x0, x1, x2, x3⟩ := blk4 HN2.out)
                          | (go_at_call 132
                             with_reducible refine (HNR.out _).mono ?_
                             rintro e w4 ⟨rfl, hb4⟩; have HB3 := Lib.hid (bl_trans HB2.out hb4); have HN3 := Lib.hid ((hb4.block _ (lt_of_heap HN2.out)).trans HN2.out); clear hb4 x0 x1 x2 x3 HB2 HN2; have HB2 := HB3; have HN2 := HN3; clear HB3 HN3
                             obtain ⟨x0, x1, x2, x3⟩ := blk4 HN2.out)
                          | (go_at_call 133
                             with_reducible refine (HSP.out _).mono ?_
                             rintro e w5 ⟨rfl, hb5⟩; have HB3 := Lib.hid (bl_trans HB2.out hb5); clear hb5 HB2; have HB2 := HB3
                             clear HB3))
             go_ret; exact ⟨⟨_, rfl, fun _ => trivial⟩, HB2.out⟩
   | false =>
    cases sp with
    | true => go_wp2_with (first
                           | (go_at_call 131
                              with_reducible refine (HTG.out _).mono ?_
                              rintro e w3 ⟨rfl, hb3⟩; have HB3 := Lib.hid (bl_trans HB2.out hb3); have HN3 := Lib.hid ((hb3.block _ (lt_of_heap HN2.out)).trans HN2.out); clear hb3 x0 x1 x2 x3 HB2 HN2; have HB2 := HB3; have HN2 := HN3; clear HB3 HN3
                              obtain ⟨x0, x1, x2, x3⟩ := blk4 HN2.out)
                           | (go_at_call 132
                              with_reducible refine (HNR.out _).mono ?_
                              rintro e w4 ⟨rfl, hb4⟩; have HB3 := Lib.hid (bl_trans HB2.out hb4); have HN3 := Lib.hid ((hb4.block _ (lt_of_heap HN2.out)).trans HN2.out); clear hb4 x0 x1 x2 x3 HB2 HN2; have HB2 := HB3; have HN2 := HN3; clear HB3 HN3
                              obtain ⟨x0, x1, x2, x3⟩ := blk4 HN2.out)
                           | (go_at_call 133
                              with_reducible refine (HSP.out _).mono ?_
                              rintro e w5 ⟨rfl, hb5⟩; have HB3 := Lib.hid (bl_trans HB2.out hb5); clear hb5 HB2; have HB2 := HB3
                              clear HB3))
              go_ret; exact ⟨⟨_, rfl, fun _ => trivial⟩, HB2.out⟩
    | false => go_wp2_with (first
                            | (go_at_call 131
                               with_reducible refine (HTG.out _).mono ?_
                               rintro e w3 ⟨rfl, hb3⟩; have HB3 := Lib.hid (bl_trans HB2.out hb3); have HN3 := Lib.hid ((hb3.block _ (lt_of_heap HN2.out)).trans HN2.out); clear hb3 x0 x1 x2 x3 HB2 HN2; have HB2 := HB3; have HN2 := HN3; clear HB3 HN3
                               obtain ⟨x0, x1, x2, x3⟩ := blk4 HN2.out)
                            | (go_at_call 132
                               with_reducible refine (HNR.out _).mono ?_
                               rintro e w4 ⟨rfl, hb4⟩; have HB3 := Lib.hid (bl_trans HB2.out hb4); have HN3 := Lib.hid ((hb4.block _ (lt_of_heap HN2.out)).trans HN2.out); clear hb4 x0 x1 x2 x3 HB2 HN2; have HB2 := HB3; have HN2 := HN3; clear HB3 HN3
                               obtain ⟨x0, x1, x2, x3⟩ := blk4 HN2.out)
                            | (go_at_call 133
                               with_reducible refine (HSP.out _).mono ?_
                               rintro e w5 ⟨rfl, hb5⟩; have HB3 := Lib.hid (bl_trans HB2.out hb5); clear hb5 HB2; have HB2 := HB3
                               clear HB3))
               go_ret; exact ⟨⟨_, rfl, fun _ => trivial⟩, HB2.out⟩
end Go.Proofs.YtifcelebfagjbaaGreatDoor
namespace Go.Proofs.YtifcelebfagjbaaGreatDoor
open Go.RowKit Go.Tw Go.Tw.Ord Go.Tw.Po Go.Sort
def AB (n : Nat) (a : Acc) (hv : Value) (wr : World) : Prop := wr.heap[n]? = some (.cells #[.string a.nm, .string a.ag, .bool a.pre, hv, .int .i64 a.r1, .int .i64 a.r2, .int .i64 a.r3, .int .i64 a.r4, .bool a.ex] 96 (0, 0))
theorem AB.step {n : Nat} {a : Acc} {hv : Value} {w w' : World} (h : AB n a hv w) (hb : Below w.heap.size w w') : AB n a hv w' := (hb.block _ (lt_of_heap h)).trans h
theorem AB.c {n : Nat} {a : Acc} {hv : Value} {w : World} (h : AB n a hv w) : w.cell? ⟨n, 0, none⟩ = some (.string a.nm) ∧ w.cell? ⟨n, 1, none⟩ = some (.string a.ag) ∧ w.cell? ⟨n, 3, none⟩ = some hv :=
 ⟨cell_of_row _ _ 0 _ _ _ h, cell_of_row _ _ 1 _ _ _ h, cell_of_row _ _ 3 _ _ _ h⟩
set_option maxRecDepth 100000 in
set_option maxHeartbeats 4000000 in
theorem check33_any (a : Acc) (hv : Value) (w : World) (h : SlIs tOw (· < w.heap.size) w hv a.ow) (hp : PltOk a.ow) :
  Calls Tryz.prog 60 #[.agg #[.string a.nm, .string a.ag, .bool a.pre, hv, .int .i64 a.r1, .int .i64 a.r2, .int .i64 a.r3, .int .i64 a.r4, .bool a.ex]] w fun e w' => ChkI (a.nm.size ≤ 12) e ∧ Below w.heap.size w w' := by
 have HA0 := Lib.hid (show AB w.heap.size a hv _ from heap_alloc_new w (.cells #[.string a.nm, .string a.ag, .bool a.pre, hv, .int .i64 a.r1, .int .i64 a.r2, .int .i64 a.r3, .int .i64 a.r4, .bool a.ex] 96)); have HB0 := Lib.hid (bl_alloc (Below.refl w.heap.size w) (.cells #[.string a.nm, .string a.ag, .bool a.pre, hv, .int .i64 a.r1, .int .i64 a.r2, .int .i64 a.r3, .int .i64 a.r4, .bool a.ex] 96)); obtain ⟨ao, cap, bi, off, rfl, hl, hm, ho⟩ := ow_open h; unfold maxLen at hm; have HO := Lib.hid ho; have HS := Lib.hid h; have HP := Lib.hid hp; obtain ⟨x0, x1, x3⟩ := HA0.out.c; have HI1 := Lib.hid (fun W => isName_any a.nm W); have HI2 := Lib.hid (fun W => isName_any a.ag W); clear h ho hp
 go_enter Tryz.func60, Tryz.ntmps60
 go_wp2_with (fail)
 with_reducible refine (HI1.out _).mono ?_
 rintro r w1 ⟨⟨b, rfl, hb⟩, hb1⟩; have HN := Lib.hid hb; clear hb; have HB1 := Lib.hid (bl_trans HB0.out hb1); have HA1 := Lib.hid (HA0.out.step hb1); clear hb1 HB0 HA0 x0 x1 x3; obtain ⟨x0, x1, x3⟩ := HA1.out.c
 cases b with
 | false =>
  go_wp2; go_ret; exact ⟨⟨_, rfl, fun h => absurd h (by decide)⟩, HB1.out⟩
 | true =>
 have HN12 := Lib.hid (HN.out (by trivial)); clear HN
 by_cases h64 : 64 < a.ow.length
 · have q64 : (64 : Int) < (a.ow.length : Int) := by omega
   obtain ⟨q, hq⟩ : ∃ q, a.ag.toList.isEmpty = q := ⟨_, rfl⟩; clear h64
   cases q with
   | true =>
    go_wp2; go_ret; exact ⟨⟨_, rfl, fun h => absurd h (by decide)⟩, HB1.out⟩
   | false =>
    go_wp2_with (fail)
    with_reducible refine (HI2.out _).mono ?_
    rintro r w2 ⟨⟨b, rfl, -⟩, hb2⟩; have HB2 := Lib.hid (bl_trans HB1.out hb2); have HA2 := Lib.hid (HA1.out.step hb2); clear hb2 HB1 HA1 x0 x1 x3; obtain ⟨x0, x1, x3⟩ := HA2.out.c
    cases b with
    | false =>
     go_wp2; go_ret; exact ⟨⟨_, rfl, fun h => absurd h (by decide)⟩, HB2.out⟩
    | true =>
     go_wp2; go_ret; exact ⟨⟨_, rfl, fun h => absurd h (by decide)⟩, HB2.out⟩
 have q64 : decide ((64 : Int) < (a.ow.length : Int)) = false := by simp; omega
 obtain ⟨q, hq⟩ : ∃ q, a.ag.toList.isEmpty = q := ⟨_, rfl⟩; have key : ∀ q', q' = q → True := fun _ _ => trivial
 clear key
 cases q with
 | true =>
  go_wp2; have hlx := lt_of_heap HA1.out
  go_loopg [3] a.ow.length (fun g i wr => ∃ k : Nat, k + g = a.ow.length ∧ i = .int .i64 k ∧ Hid (Below w1.heap.size w1 wr))
  case atStart => exact ⟨0, by omega, rfl, Lib.hid (Below.refl _ _)⟩
  case round =>
   obtain ⟨k, hk, rfl, HBW⟩ := hrel; have HWW := Lib.hid (bl_trans HB1.out HBW.out); have HAW := Lib.hid (HA1.out.step HBW.out)
   (try clear x0 x1 x3)
   obtain ⟨x0, x1, x3⟩ := HAW.out.c
   by_cases hlt : k < a.ow.length
   · obtain ⟨rfl, -, hbi, -, c0, c1, c2, c3⟩ := HO.out wr (.of_below HWW.out) k hlt
     have k0 : (0 : Int) ≤ (k : Int) := by omega
     have k1 : (k : Int) < (a.ow.length : Int) := by omega
     have k2 : (k : Int) ≤ (a.ow.length : Int) := by omega
     have k3 : (k : Int) ≤ (cap : Int) := by omega
     have HCO := Lib.hid (correct_any a.ow[k] wr (HP.out _ (List.getElem_mem hlt))); have hbw : bi < wr.heap.size := Nat.lt_of_lt_of_le hbi HWW.out.size; generalize a.ow[k] = o at *; have HC4 := Lib.hid (show ∀ w', Below wr.heap.size wr w' → w'.cell? ⟨bi, off + k * 4, none⟩ = some (.string o.tag) ∧ w'.cell? ⟨bi, off + k * 4 + 1, none⟩ = some (.string o.plt) ∧ w'.cell? ⟨bi, off + k * 4 + 2, none⟩ = some (.int .i64 o.fr) ∧ w'.cell? ⟨bi, off + k * 4 + 3, none⟩ = some (.int .i64 o.to) from fun w' hw => ⟨(hw.cell (p := ⟨bi, off + k * 4, none⟩) hbw).trans c0, (hw.cell (p := ⟨bi, off + k * 4 + 1, none⟩) hbw).trans c1, (hw.cell (p := ⟨bi, off + k * 4 + 2, none⟩) hbw).trans c2, (hw.cell (p := ⟨bi, off + k * 4 + 3, none⟩) hbw).trans c3⟩)
     go_wp2_with (fail)
     with_reducible refine HCO.out.mono ?_
     clear HCO; rintro r w5 ⟨⟨n, rfl, -⟩, hb5⟩; have HB5 := Lib.hid (bl_trans HBW.out hb5); obtain ⟨d0, d1, d2, d3⟩ := HC4.out w5 hb5; clear hb5 c0 c1 c2 c3 x0 x1 x3; have HA5 := Lib.hid (HA1.out.step HB5.out); obtain ⟨x0, x1, x3⟩ := HA5.out.c
     by_cases hnz : n = 0
     case neg =>
      have q1 : (n != 0) = true := by simpa using hnz
      have HNZ := Lib.hid hnz; clear hnz; go_wp2; go_ret; exact ⟨⟨_, rfl, fun h => absurd h HNZ.out⟩, (bl_trans HB1.out HB5.out)⟩
     subst hnz; have b0 := cell_regrown d0; have b1 := cell_regrown d1; have b2 := cell_regrown d2; have b3 := cell_regrown d3; have b4 := cell_regrown x3; have HS5 := Lib.hid (HS.out.step (bl_trans HB1.out HB5.out)); obtain ⟨q, hq⟩ : ∃ q, ((a.ow.take k).any fun a => conflB a o) = q := ⟨_, rfl⟩; have cC := fun d os => Calls.regrown_of (conflicts_any (a.ow.take k) (.slice (some ⟨bi, off, none⟩) k cap) o (grow (redrawn w5 d) os) ((HS5.out.take (by omega)).step (below_regrown w5 d os)))
     rw [hq] at cC
     go_upto_region 13 with (fail)
     clear d0 d1 d2 d3 x0 x1 x3 hq; refine wp_region_quiet_below (by kernel_rfl) (by kernel_rfl) ?_
     (repeat (quiet_step (first | (go_at_call 61; with_reducible exact cC _ _))))
     refine wpQuiet_nil ?_; intro _ hw'; obtain ⟨⟨dq, osq⟩, hw''⟩ := hw'; subst hw''; have HGQ := Lib.hid (bl_trans HB5.out (below_regrown w5 dq osq)); generalize grow (redrawn w5 dq) osq = wq at HGQ ⊢; clear cC b0 b1 b2 b3 b4
     cases q with
     | true =>
      go_wp2; go_ret; exact ⟨⟨_, rfl, fun h => absurd h (by decide)⟩, (bl_trans HB1.out HGQ.out)⟩
     | false =>
      go_wp2
      go_roundg (a.ow.length - (k + 1))
      case measure => omega
      case rel => exact ⟨k + 1, by omega, by go_num, HGQ⟩
   · have hkd : decide ((k : Int) < (a.ow.length : Int)) = false := by simp; omega
     go_wp2; go_ret; exact ⟨⟨_, rfl, fun _ => HN12.out⟩, HWW.out⟩
 | false =>
  go_wp2_with (fail)
  with_reducible refine (HI2.out _).mono ?_
  rintro r w2 ⟨⟨b, rfl, -⟩, hb2⟩; have HB2 := Lib.hid (bl_trans HB1.out hb2); have HA2 := Lib.hid (HA1.out.step hb2); clear hb2 HB1 HA1 x0 x1 x3; obtain ⟨x0, x1, x3⟩ := HA2.out.c
  cases b with
  | false =>
   go_wp2; go_ret; exact ⟨⟨_, rfl, fun h => absurd h (by decide)⟩, HB2.out⟩
  | true =>
   go_wp2; have hlx := lt_of_heap HA2.out
   go_loopg [3] a.ow.length (fun g i wr => ∃ k : Nat, k + g = a.ow.length ∧ i = .int .i64 k ∧ Hid (Below w2.heap.size w2 wr))
   case atStart => exact ⟨0, by omega, rfl, Lib.hid (Below.refl _ _)⟩
   case round =>
    obtain ⟨k, hk, rfl, HBW⟩ := hrel; have HWW := Lib.hid (bl_trans HB2.out HBW.out); have HAW := Lib.hid (HA2.out.step HBW.out)
    (try clear x0 x1 x3)
    obtain ⟨x0, x1, x3⟩ := HAW.out.c
    by_cases hlt : k < a.ow.length
    · obtain ⟨rfl, -, hbi, -, c0, c1, c2, c3⟩ := HO.out wr (.of_below HWW.out) k hlt
      have k0 : (0 : Int) ≤ (k : Int) := by omega
      have k1 : (k : Int) < (a.ow.length : Int) := by omega
      have k2 : (k : Int) ≤ (a.ow.length : Int) := by omega
      have k3 : (k : Int) ≤ (cap : Int) := by omega
      have HCO := Lib.hid (correct_any a.ow[k] wr (HP.out _ (List.getElem_mem hlt))); have hbw : bi < wr.heap.size := Nat.lt_of_lt_of_le hbi HWW.out.size; generalize a.ow[k] = o at *; have HC4 := Lib.hid (show ∀ w', Below wr.heap.size wr w' → w'.cell? ⟨bi, off + k * 4, none⟩ = some (.string o.tag) ∧ w'.cell? ⟨bi, off + k * 4 + 1, none⟩ = some (.string o.plt) ∧ w'.cell? ⟨bi, off + k * 4 + 2, none⟩ = some (.int .i64 o.fr) ∧ w'.cell? ⟨bi, off + k * 4 + 3, none⟩ = some (.int .i64 o.to) from fun w' hw => ⟨(hw.cell (p := ⟨bi, off + k * 4, none⟩) hbw).trans c0, (hw.cell (p := ⟨bi, off + k * 4 + 1, none⟩) hbw).trans c1, (hw.cell (p := ⟨bi, off + k * 4 + 2, none⟩) hbw).trans c2, (hw.cell (p := ⟨bi, off + k * 4 + 3, none⟩) hbw).trans c3⟩)
      go_wp2_with (fail)
      with_reducible refine HCO.out.mono ?_
      clear HCO; rintro r w5 ⟨⟨n, rfl, -⟩, hb5⟩; have HB5 := Lib.hid (bl_trans HBW.out hb5); obtain ⟨d0, d1, d2, d3⟩ := HC4.out w5 hb5; clear hb5 c0 c1 c2 c3 x0 x1 x3; have HA5 := Lib.hid (HA2.out.step HB5.out); obtain ⟨x0, x1, x3⟩ := HA5.out.c
      by_cases hnz : n = 0
      case neg =>
       have q1 : (n != 0) = true := by simpa using hnz
       have HNZ := Lib.hid hnz; clear hnz; go_wp2; go_ret; exact ⟨⟨_, rfl, fun h => absurd h HNZ.out⟩, (bl_trans HB2.out HB5.out)⟩
      subst hnz; have b0 := cell_regrown d0; have b1 := cell_regrown d1; have b2 := cell_regrown d2; have b3 := cell_regrown d3; have b4 := cell_regrown x3; have HS5 := Lib.hid (HS.out.step (bl_trans HB2.out HB5.out)); obtain ⟨q, hq⟩ : ∃ q, ((a.ow.take k).any fun a => conflB a o) = q := ⟨_, rfl⟩; have cC := fun d os => Calls.regrown_of (conflicts_any (a.ow.take k) (.slice (some ⟨bi, off, none⟩) k cap) o (grow (redrawn w5 d) os) ((HS5.out.take (by omega)).step (below_regrown w5 d os)))
      rw [hq] at cC
      go_upto_region 13 with (fail)
      clear d0 d1 d2 d3 x0 x1 x3 hq; refine wp_region_quiet_below (by kernel_rfl) (by kernel_rfl) ?_
      (repeat (quiet_step (first | (go_at_call 61; with_reducible exact cC _ _))))
      refine wpQuiet_nil ?_; intro _ hw'; obtain ⟨⟨dq, osq⟩, hw''⟩ := hw'; subst hw''; have HGQ := Lib.hid (bl_trans HB5.out (below_regrown w5 dq osq)); generalize grow (redrawn w5 dq) osq = wq at HGQ ⊢; clear cC b0 b1 b2 b3 b4
      cases q with
      | true =>
       go_wp2; go_ret; exact ⟨⟨_, rfl, fun h => absurd h (by decide)⟩, (bl_trans HB2.out HGQ.out)⟩
      | false =>
       go_wp2
       go_roundg (a.ow.length - (k + 1))
       case measure => omega
       case rel => exact ⟨k + 1, by omega, by go_num, HGQ⟩
    · have hkd : decide ((k : Int) < (a.ow.length : Int)) = false := by simp; omega
      go_wp2; go_ret; exact ⟨⟨_, rfl, fun _ => HN12.out⟩, HWW.out⟩
set_option maxRecDepth 100000 in
set_option maxHeartbeats 4000000 in
theorem checkAll_any (l : List Acc) (v : Value) (w : World) (h : SlIs (tAcc 138) (· < w.heap.size) w v l) (hl : l.length ≤ 1000) (hp : ∀ a ∈ l, PltOk a.ow) :
  Calls Tryz.prog 28 #[v] w fun e w' => ChkI (CfOk l) e ∧ Below w.heap.size w w' := by
 obtain ⟨ao, cap, bi, off, rfl, h1, h2, ho⟩ := acc_open h; unfold maxLen at h2; have HO := Lib.hid ho; have HP := Lib.hid hp; have q0 : decide ((1024 : Int) < (l.length : Int)) = false := by simp; omega
 clear h ho hp
 go_enter Tryz.func28, Tryz.ntmps28
 go_wp2
 go_loopg [3] l.length (fun g i wr => ∃ k : Nat, k + g = l.length ∧ i = .int .i64 k ∧ Hid (∀ j (hj : j < l.length), j < k → l[j].nm.size ≤ 12) ∧ Hid (Below w.heap.size w wr))
 case atStart => exact ⟨0, by omega, rfl, Lib.hid (fun j _ h => by omega), Lib.hid (Below.refl _ _)⟩
 case round =>
  obtain ⟨k, hk, rfl, HT, HBW⟩ := hrel
  by_cases hlt : k < l.length
  · obtain ⟨rfl, -, hbi, -, hv, hsl, c0, c1, c2, c3, c4, c5, c6, c7, c8⟩ := HO.out wr (.of_below HBW.out) k hlt
    have k0 : (0 : Int) ≤ (k : Int) := by omega
    have k1 : (k : Int) < (l.length : Int) := by omega
    obtain ⟨ha, hn, hc, hve⟩ : ∃ a n c, hv = .slice a n c := by
     obtain ⟨a, c, _, _, e, -⟩ := hsl; exact ⟨a, _, c, e⟩
    subst hve; have hsl1 : SlIs tOw (· < wr.heap.size) wr (.slice ha hn hc) l[k].ow := hsl.keep (fun q (hq : q < w.heap.size) => Nat.lt_of_lt_of_le hq HBW.out.size) (SameOn.refl _ _); have HCK := Lib.hid (check33_any l[k] (.slice ha hn hc) wr hsl1 (HP.out _ (List.getElem_mem hlt))); have HG1 := Lib.hid (show ∀ j (hj : j < l.length), j = k → l[j] = l[k] by rintro j hj rfl; rfl); obtain ⟨y, hy⟩ : ∃ y, l[k] = y := ⟨_, rfl⟩; rw [hy] at HCK HG1 c0 c1 c2 c4 c5 c6 c7 c8; clear hsl hsl1 hy
    go_wp2_with (fail)
    with_reducible refine HCK.out.mono ?_
    clear HCK; rintro r w2 ⟨⟨n, rfl, hn0⟩, hb2⟩; have HN0 := Lib.hid hn0; have HB2 := Lib.hid (bl_trans HBW.out hb2); clear hn0 hb2 c0 c1 c2 c3 c4 c5 c6 c7 c8
    by_cases hnz : n = 0
    case neg =>
     have q1 : (n != 0) = true := by simpa using hnz
     have HNZ := Lib.hid hnz; clear hnz; go_wp2; go_ret; exact ⟨⟨_, rfl, fun h => absurd h HNZ.out⟩, HB2.out⟩
    subst hnz
    have HT2 := Lib.hid (show ∀ j (hj : j < l.length), j < k + 1 → l[j].nm.size ≤ 12 from fun j hj h => by
     by_cases e : j = k
     · rw [HG1.out j hj e]; exact HN0.out (by trivial)
     · exact HT.out j hj (by omega))
    clear HT HN0 HG1; obtain ⟨wk, rfl⟩ : ∃ wk : World, wk = w2 := ⟨_, rfl⟩; go_wp2
    go_loopg [5] k (fun g i wr => ∃ j : Nat, j + g = k ∧ i = .int .i64 j ∧ Hid (Below w.heap.size w wr))
    case atStart => exact ⟨0, by omega, rfl, HB2⟩
    case round =>
     obtain ⟨j, hj, rfl, HBV⟩ := hrel
     by_cases hlt2 : j < k
     · have hje : j < l.length := by omega
       obtain ⟨-, -, -, -, hv1, hsl1, e0, -, -, e3, -⟩ := HO.out wr (.of_below HBV.out) j hje; obtain ⟨-, -, -, -, hv2, hsl2, f0, -, -, f3, -⟩ := HO.out wr (.of_below HBV.out) k hlt; have j0 : (0 : Int) ≤ (j : Int) := by omega
       have j1 : (j : Int) < (l.length : Int) := by omega
       have j2 : (j : Int) < (k : Int) := by omega
       have hbw : bi < wr.heap.size := Nat.lt_of_lt_of_le hbi HBV.out.size
       obtain ⟨a1, n1, c1, hve1⟩ : ∃ a n c, hv1 = .slice a n c := by
        obtain ⟨a, c, _, _, e, -⟩ := hsl1; exact ⟨a, _, c, e⟩
       obtain ⟨a2, n2, c2, hve2⟩ : ∃ a n c, hv2 = .slice a n c := by
        obtain ⟨a, c, _, _, e, -⟩ := hsl2; exact ⟨a, _, c, e⟩
       subst hve1 hve2; have HSL1 := Lib.hid (show SlIs tOw (· < wr.heap.size) wr (.slice a1 n1 c1) l[j].ow from hsl1.keep (fun q (hq : q < w.heap.size) => Nat.lt_of_lt_of_le hq HBV.out.size) (SameOn.refl _ _)); have HSL2 := Lib.hid (show SlIs tOw (· < wr.heap.size) wr (.slice a2 n2 c2) l[k].ow from hsl2.keep (fun q (hq : q < w.heap.size) => Nat.lt_of_lt_of_le hq HBV.out.size) (SameOn.refl _ _)); generalize l[j] = y1 at *; generalize l[k] = y2 at *; obtain ⟨q, hq⟩ : ∃ q, (y1.nm.toList == y2.nm.toList) = q := ⟨_, rfl⟩; have HE3 := Lib.hid (show ∀ w', Below wr.heap.size wr w' → w'.cell? ⟨bi, off + j * 9 + 3, none⟩ = some (.slice a1 n1 c1) ∧ w'.cell? ⟨bi, off + k * 9 + 3, none⟩ = some (.slice a2 n2 c2) from fun w' hw => ⟨(hw.cell (p := ⟨bi, off + j * 9 + 3, none⟩) hbw).trans e3, (hw.cell (p := ⟨bi, off + k * 9 + 3, none⟩) hbw).trans f3⟩); clear hsl1 hsl2 e3 f3
       cases q with
       | true =>
        go_wp2_with (go_quiet (fail))
        go_ret; exact ⟨⟨_, rfl, fun h => absurd h (by decide)⟩, bl_drewN HBV.out _⟩
       | false =>
        go_upto_region 14 with (go_quiet (fail))
        have HWV := Lib.hid (bl_drewN (Below.refl wr.heap.size wr) nq); generalize wr.drewN nq = wv at HWV ⊢; obtain ⟨a2', c2', b2, o2, hv2e, hl2, hm2, ho2⟩ := ow_open (HSL2.out.step HWV.out)
        injection hv2e with t1 t2 t3
        subst t1 t2 t3; unfold maxLen at hm2; have HO2 := Lib.hid ho2; have HSV := Lib.hid (HSL1.out.step HWV.out); have HBX := Lib.hid (bl_trans HBV.out HWV.out); clear ho2 e0 f0 hq; go_wp2
        go_loopg [6] y2.ow.length (fun g i wr2 => ∃ m : Nat, m + g = y2.ow.length ∧ i = .int .i64 m ∧ Hid (Below wv.heap.size wv wr2))
        case atStart => exact ⟨0, by omega, rfl, Lib.hid (Below.refl _ _)⟩
        case round =>
         obtain ⟨wx, rfl⟩ : ∃ wx : World, wx = wr := ⟨_, rfl⟩; obtain ⟨m, hm3, rfl, HBM⟩ := hrel; obtain ⟨g1, g2⟩ := HE3.out wx (bl_trans HWV.out HBM.out)
         by_cases hlt3 : m < y2.ow.length
         · obtain ⟨rfl, -, hb2, -, d0, d1, d2, d3⟩ := HO2.out wx (.of_below HBM.out) m hlt3
           have m0 : (0 : Int) ≤ (m : Int) := by omega
           have m1 : (m : Int) < (y2.ow.length : Int) := by omega
           have HSX := Lib.hid (HSV.out.step HBM.out); generalize y2.ow[m] = o at *; have b0 := cell_regrown d0; have b1 := cell_regrown d1; have b2 := cell_regrown d2; have b3 := cell_regrown d3; have b4 := cell_regrown g1; have b5 := cell_regrown g2; obtain ⟨q, hq⟩ : ∃ q, (y1.ow.any fun a => conflB a o) = q := ⟨_, rfl⟩; have cC := fun d os => Calls.regrown_of (conflicts_any y1.ow (.slice a1 n1 c1) o (grow (redrawn wx d) os) (HSX.out.step (below_regrown wx d os)))
           rw [hq] at cC
           go_upto_region 17 with (fail)
           clear d0 d1 d2 d3 g1 g2 hq; refine wp_region_quiet_below (by kernel_rfl) (by kernel_rfl) ?_
           (repeat (quiet_step (first | (go_at_call 61; with_reducible exact cC _ _))))
           refine wpQuiet_nil ?_; intro _ hw'; obtain ⟨⟨dq, osq⟩, hw''⟩ := hw'; subst hw''; have HGQ := Lib.hid (bl_trans HBM.out (below_regrown wx dq osq)); generalize grow (redrawn wx dq) osq = wq at HGQ ⊢; clear cC b0 b1 b2 b3 b4 b5
           cases q with
           | true =>
            go_wp2; go_ret; exact ⟨⟨_, rfl, fun h => absurd h (by decide)⟩, bl_trans HBX.out HGQ.out⟩
           | false =>
            go_wp2
            go_roundg (y2.ow.length - (m + 1))
            case measure => omega
            case rel => exact ⟨m + 1, by omega, by go_num, HGQ⟩
         · have hmd : decide ((m : Int) < (y2.ow.length : Int)) = false := by simp; omega
           have HBO := Lib.hid (bl_trans HBX.out HBM.out); go_wp2
           go_roundg (k - (j + 1))
           case measure => omega
           case rel => exact ⟨j + 1, by omega, by go_num, HBO⟩
     · have hjd : decide ((j : Int) < (k : Int)) = false := by simp; omega
       go_wp2
       go_roundg (l.length - (k + 1))
       case measure => omega
       case rel => exact ⟨k + 1, by omega, by go_num, HT2, HBV⟩
  · have hkd : decide ((k : Int) < (l.length : Int)) = false := by simp; omega
    go_wp2; go_ret
    exact ⟨⟨_, rfl, fun _ a ha => by
     obtain ⟨j, hj, rfl⟩ := List.getElem_of_mem ha
     exact HT.out j hj (by omega)⟩, HBW.out⟩
end Go.Proofs.YtifcelebfagjbaaGreatDoor
namespace Go.Proofs.YtifcelebfagjbaaGreatDoor
open Go.RowKit Go.Tw Go.Tw.Ord Go.Tw.Po Go.Sort
def RtB (l : List Acc) (e : Ending) : Prop := ∃ b, e = .returned (.bool b) ∧ (b = true → l.length ≤ 6 ∧ CfOk l)
set_option maxRecDepth 100000 in
set_option maxHeartbeats 2000000 in
theorem right_any (l : List Acc) (A : Array Value) (va : Value) (w : World) (hA : CfgA A va) (h : SlIs (tAcc 138) (· < w.heap.size) w va l) (hp : ∀ a ∈ l, PltOk a.ow) :
  Calls Tryz.prog 9 #[.agg A] w fun e w' => RtB l e ∧ Below w.heap.size w w' := by
 have n0 := heap_alloc_new w (.cells A 46); have HB0 := Lib.hid (bl_alloc (Below.refl w.heap.size w) (.cells A 46)); obtain ⟨ao, cap, bi, off, rfl, h1, h2, ho⟩ := acc_open h; unfold maxLen at h2; have HO := Lib.hid ho; have H := Lib.hid h; have HP := Lib.hid hp; have HA := Lib.hid hA; have HN := Lib.hid n0; have c17 := cell_of_row _ _ 17 _ _ _ n0; rw [hA.acc] at c17; clear h ho hp hA n0
 go_enter Tryz.func9, Tryz.ntmps9
 by_cases h6 : 6 < l.length
 · have q6 : (6 : Int) < (l.length : Int) := by omega
   clear h6; go_wp2; go_ret; exact ⟨⟨_, rfl, fun h => by cases h⟩, HB0.out⟩
 have q6 : decide ((6 : Int) < (l.length : Int)) = false := by simp; omega
 have HCA := Lib.hid (checkAll_any l (.slice ao l.length cap) _ (H.out.step HB0.out) (by omega) HP.out)
 go_wp2_with (fail)
 with_reducible refine HCA.out.mono ?_
 clear HCA; rintro r w2 ⟨⟨n, rfl, hn0⟩, hb2⟩; have HN0 := Lib.hid hn0; have HB2 := Lib.hid (bl_trans HB0.out hb2); have n2 := (hb2.block w.heap.size (by simp)).trans HN.out; clear hn0 hb2 c17; have c17 := cell_of_row _ _ 17 _ _ _ n2; rw [HA.out.acc] at c17; clear n2
 by_cases hnz : n = 0
 case neg =>
  have q1 : (n != 0) = true := by simpa using hnz
  clear hnz; go_wp2; go_ret; exact ⟨⟨_, rfl, fun h => by cases h⟩, HB2.out⟩
 subst hnz; have HCF := Lib.hid (HN0.out (by trivial)); go_wp2
 go_loopg [3] l.length (fun g i wr => ∃ k : Nat, k + g = l.length ∧ i = .int .i64 k ∧ wr = w2)
 case atStart => exact ⟨0, by omega, rfl, rfl⟩
 case round =>
  obtain ⟨k, hk, rfl, rfl⟩ := hrel
  by_cases hlt : k < l.length
  · obtain ⟨rfl, -, hbi, -, hv, hsl, e0, e1, e2, e3, -⟩ := HO.out wr (.of_below HB2.out) k hlt
    have k0 : (0 : Int) ≤ (k : Int) := by omega
    have k1 : (k : Int) < (l.length : Int) := by omega
    obtain ⟨ha, hn, hc, hve⟩ : ∃ a n c, hv = .slice a n c := by
     obtain ⟨a, c, _, _, e, -⟩ := hsl; exact ⟨a, _, c, e⟩
    subst hve; clear hsl
    by_cases h6 : 6 < hn
    · have q7 : (6 : Int) < (hn : Int) := by omega
      clear h6; go_wp2; go_ret; exact ⟨⟨_, rfl, fun h => by cases h⟩, HB2.out⟩
    · have q7 : decide ((6 : Int) < (hn : Int)) = false := by simp; omega
      clear h6; go_wp2
      go_roundg (l.length - (k + 1))
      case measure => omega
      case rel => exact ⟨k + 1, by omega, by go_num, rfl⟩
  · have hkd : decide ((k : Int) < (l.length : Int)) = false := by simp; omega
    have H6 := Lib.hid (show l.length ≤ 6 by omega); go_wp2; go_ret; exact ⟨⟨_, rfl, fun _ => ⟨H6.out, HCF.out⟩⟩, HB2.out⟩
set_option maxRecDepth 100000 in
set_option maxHeartbeats 4000000 in
theorem config_any (A : Array Value) (ao : Option Addr) (n c : Nat) (w : World) (hA : CfgA A (.slice ao n c)) :
  Calls Tryz.prog 13 #[.agg A] w fun e w' => e = .returned (.agg (zCfg (.slice ao n c))) ∧ Below w.heap.size w w' := by
 have n0 := alloc2_0 w (.cells A 46) (.cells (zCfg (.slice none 0 0)) 46); have n1 := alloc2_1 w (.cells A 46) (.cells (zCfg (.slice none 0 0)) 46); have HB0 := Lib.hid (bl_alloc (bl_alloc (Below.refl w.heap.size w) (.cells A 46)) (.cells (zCfg (.slice none 0 0)) 46)); have c17 := cell_of_row _ _ 17 _ _ _ n0; rw [hA.acc] at c17
 go_enter Tryz.func13, Tryz.ntmps13
 go_upto_region 1 with (fail)
 have hnn : (w.alloc (.cells A 46)).alloc (.cells (zCfg (.slice none 0 0)) 46) = _ := rfl; obtain ⟨w0, hw0⟩ : ∃ w0, (w.alloc (.cells A 46)).alloc (.cells (zCfg (.slice none 0 0)) 46) = w0 := ⟨_, rfl⟩; rw [hw0] at n1 HB0 c17; have hw0' : (w.alloc (.cells A 46)).alloc (.cells #[.slice none 0 0, .slice none 0 0, .slice none 0 0, .slice none 0 0, .slice none 0 0, .slice none 0 0, .int .i64 0, .int .i64 0, .slice none 0 0, .int .i64 0, .slice none 0 0, .slice none 0 0, .slice none 0 0, .slice none 0 0, .slice none 0 0, .slice none 0 0, .slice none 0 0, .slice none 0 0, .slice none 0 0, .slice none 0 0, .slice none 0 0, .slice none 0 0, .int .i64 0, .slice none 0 0, .string ⟨#[]⟩] 46) = w0 := hw0; rw [hw0']; clear hnn hw0 hw0' n0; have HBW := HB0; have hlz : w.heap.size ≤ w0.heap.size := HB0.out.size
 go_wp2_with (refine wpList_storeA (.tmp 2) (.tmp 5) rfl 46 rfl rfl (cur := zCfg (.slice none 0 0)) (n := 25) (g := w.heap.size + 1) (k := 0) (t2 := 46) Tryz.sizeOf46 rfl (by simp [Value.oneCell']) rfl rfl n1 (by decide) ?_)
 have g5 : (w0.setRow (w.heap.size + 1) (zCfg (.slice ao n c))).heap[w.heap.size + 1]? = some (.cells (zCfg (.slice ao n c)) 46 (0, 0)) := setRow_heap _ _ _ _ _ _ n1; have b5 : Below w.heap.size w (w0.setRow (w.heap.size + 1) (zCfg (.slice ao n c))) := below_setRow HB0.out hlz (by omega); refine bodyPost_ret (v := .agg (zCfg (.slice ao n c))) ?_ rfl ⟨rfl, b5⟩
 change Sem.run _ (results _ _) (w0.setRow (w.heap.size + 1) (zCfg (.slice ao n c))) = .ok _ (w0.setRow (w.heap.size + 1) (zCfg (.slice ao n c)))
 exact results_cell_row Tryz.results13 _ _ (w.heap.size + 1) 46 (zCfg (.slice ao n c)) (0, 0) _ rfl g5 Tryz.underlying46 rfl (by kernel_rfl)
end Go.Proofs.YtifcelebfagjbaaGreatDoor
namespace Go.Tw
open Go.RowKit Go.ChangeShapes Go.WideShapes
theorem OpensW.mono {α β : Type} {P : Program} {t : TypeId} {T : Ty α} {T' : Ty β} (h : OpensW P t T) (hm : ∀ (w : World) (cs : List Value) (x : α), T.is (· < w.heap.size) w cs x → ∃ y, T'.is (· < w.heap.size) w cs y) : OpensW P t T' := fun H enc w fuel cs x hx hw => by
 obtain ⟨y, hy⟩ := h H enc w fuel cs x hx hw; exact hm w cs y hy
theorem opensW_str {P : Program} {t : TypeId} (ht : P.underlying t = some .string) : OpensW P t (tStr.sub fun s => s.size ≤ reachBytes) := fun H enc w fuel cs x hx hw => by
 obtain ⟨s, rfl, rfl, hs⟩ := DataW.trod_string ht hx; refine ⟨s, ⟨rfl, hs⟩, ?_⟩; have := hw s.data.toList.length (by simp [DataW.weights])
 simpa using this
inductive FieldsOpenW (P : Program) : {α : Type} → Nat → List Field → Ty α → Prop
 | one {α : Type} {T : Ty α} {o : Nat} {f : Field} : f.offset = o → P.cellsOf f.type = T.sz → OpensW P f.type T → FieldsOpenW P o [f] T
 | cons {α β : Type} {T : Ty α} {U : Ty β} {o : Nat} {f : Field} {fs : List Field} : f.offset = o → P.cellsOf f.type = T.sz → OpensW P f.type T → FieldsOpenW P (o + T.sz) fs U → FieldsOpenW P o (f :: fs) (T.pair U)
theorem fieldsOpenW_is {H : Type} {enc : TypeId × Value → H} {P : Program} {w : World} {α : Type} {U : Ty α} {o : Nat} {fs : List Field} (h : FieldsOpenW P o fs U) : ∀ {cs : List Value} {n : Nat} {xs : List (DataW H × List MemPlace)},
  fs.length = xs.length → (∀ (i : Nat) (f : Field), fs[i]? = some f → DataW.trod enc P w 0 (fun _ => true) true n f.type ((cs.drop f.offset).take (P.cellsOf f.type)) = xs[i]?) →
  (∀ (i : Nat) (f : Field) (x : DataW H × List MemPlace), fs[i]? = some f → xs[i]? = some x → ∀ k ∈ x.1.weights P f.type, k ≤ reachBytes) →
  cs.length = o + U.sz → ∃ y, U.is (· < w.heap.size) w (cs.drop o) y := by
 induction h with
 | one ho hc hop =>
  intro cs n xs hx hf hw hl
  match xs, hx with
  | [x], _ =>
   have := hf 0 _ rfl; rw [ho, hc, List.take_of_length_le (by simp; omega)] at this; exact hop _ _ _ _ _ _ this (hw 0 _ _ rfl rfl)
 | cons ho hc hop _ ih =>
  intro cs n xs hx hf hw hl
  match xs, hx with
  | x :: xs, hx =>
   have h0 := hf 0 _ rfl; rw [ho, hc] at h0; obtain ⟨y, hy⟩ := hop _ _ _ _ _ _ h0 (hw 0 _ _ rfl rfl); obtain ⟨z, hz⟩ := ih (by simpa using hx) (fun i f h => by simpa using hf (i + 1) f (by simpa using h)) (fun i f y h h2 => hw (i + 1) f y (by simpa using h) (by simpa using h2)) (by simp [Ty.pair] at hl; omega); refine ⟨(y, z), _, _, ?_, hy, hz⟩; rw [← List.drop_drop, List.take_append_drop]
theorem structW {H : Type} {enc : TypeId × Value → H} {P : Program} {w : World} {t : TypeId} {fs : Array Field} {fuel : Nat} {cs : List Value} {x : DataW H × List MemPlace} (ht : P.underlying t = some (.struct fs)) (hx : DataW.trod enc P w 0 (fun _ => true) true fuel t cs = some x) (hw : ∀ n ∈ x.1.weights P t, n ≤ reachBytes) :
  ∃ (xs : List (DataW H × List MemPlace)) (n : Nat), cs.length = P.cellsOf t ∧ xs.length = fs.size ∧ (∀ (i : Nat) (f : Field), fs[i]? = some f → DataW.trod enc P w 0 (fun _ => true) true n f.type ((cs.drop f.offset).take (P.cellsOf f.type)) = xs[i]?) ∧
   ∀ (i : Nat) (f : Field) (y : DataW H × List MemPlace), fs[i]? = some f → xs[i]? = some y → ∀ k ∈ y.1.weights P f.type, k ≤ reachBytes := by
 obtain ⟨xs, n, _, hxe, hl, hlen, hf⟩ := DataW.trod_struct ht hx; refine ⟨xs, n, hl, hlen, hf, fun i f y hi hy k hk => hw k ?_⟩; rw [hxe]; simp only [DataW.weights, ht]; exact DataW.weights_mem_each (j := i) (by simp [hi]) (by simp [hy]) k hk
theorem opensW_struct {α : Type} {P : Program} {T : Ty α} {t : TypeId} {fs : Array Field} (ht : P.underlying t = some (.struct fs)) (hsz : P.cellsOf t = T.sz) (h : FieldsOpenW P 0 fs.toList T) : OpensW P t T := fun H enc w fuel cs x hx hw => by
 obtain ⟨xs, n, hl, hlen, hf, hw'⟩ := structW ht hx hw; obtain ⟨y, hy⟩ := fieldsOpenW_is h (by simpa using hlen.symm) (fun i f hi => hf i f (by simpa using hi)) (fun i f y hi hy => hw' i f y (by simpa using hi) hy) (by omega); exact ⟨y, by simpa using hy⟩
theorem arg_fieldW {H : Type} {enc : TypeId × Value → H} {P : Program} {w : World} {r : Reach} {b0 : Nat} {t : TypeId} {v : Value} {d : DataW H} {ps : List MemPlace} {ts : List TypeId} {ds : List (DataW H)} {j i : Nat} {fs : Array Field} {f : Field} {α : Type} {T : Ty α}
  (ht : P.underlying t = some (.struct fs)) (hi : fs[i]? = some f) (ho : OpensW P f.type T) (hval : Value.okWide P w r b0 t v) (hd : DataW.Trod enc P w 0 (fun _ => true) true t v d ps)
  (hz : (DataW.weightsEach P ts ds).all (· ≤ reachBytes) = true) (htj : ts[j]? = some t) (hdj : ds[j]? = some d) : ∃ cs y, v = .agg cs ∧ cs.size = P.cellsOf t ∧ T.is (· < w.heap.size) w ((cs.toList.drop f.offset).take (P.cellsOf f.type)) y := by
 obtain ⟨fuel, h⟩ := hd; simp only [Value.okWide, ht] at hval; obtain ⟨cs, rfl, _⟩ := hval
 obtain ⟨xs, n, hl, hlen, hf, hw'⟩ := structW ht h (fun n hn => by
  have := List.all_eq_true.1 hz _ (DataW.weights_mem_each htj hdj n hn)
  simpa using this)
 have hix : i < xs.length := by
  rw [hlen]; exact (Array.getElem?_eq_some_iff.1 hi).1
 have h1 := hf i f hi; rw [List.getElem?_eq_getElem hix] at h1; obtain ⟨y, hy⟩ := ho _ _ _ _ _ _ h1 (hw' i f _ hi (List.getElem?_eq_getElem hix)); exact ⟨cs, y, rfl, by simpa [Value.cells] using hl, hy⟩
end Go.Tw
namespace Go.Proofs.YtifcelebfagjbaaGreatDoor
open Go.RowKit Go.Tw Go.Tw.Ord Go.Tw.Po Go.Sort Go.ChangeShapes Go.WideShapes
theorem trodAll_four {H : Type} {enc : TypeId × Value → H} {P : Program} {w : World} {base : Nat} {spare : Nat → Bool} {held : Bool} {t t' t'' t3 : TypeId} {args : Array Value} {ds : List (DataW H)} {ps : List MemPlace} (h : DataW.TrodAll enc P w base spare held [t, t', t'', t3] args.toList ds ps) :
  ∃ v v' v'' v3 d d' d'' d3 p p' p'' p3, args = #[v, v', v'', v3] ∧ ds = [d, d', d'', d3] ∧ ps = p ++ p' ++ p'' ++ p3 ∧ DataW.Trod enc P w base spare held t v d p ∧ DataW.Trod enc P w base spare held t' v' d' p' ∧ DataW.Trod enc P w base spare held t'' v'' d'' p'' ∧ DataW.Trod enc P w base spare held t3 v3 d3 p3 := by
 obtain ⟨v, vs, d, ds', p, q, hargs, rfl, rfl, hd, hrest⟩ := trodAll_cons h; obtain ⟨v', vs', d', ds'', p', q', rfl, rfl, rfl, hd', hrest'⟩ := trodAll_cons hrest; obtain ⟨v'', vs'', d'', ds''', p'', q'', rfl, rfl, rfl, hd'', hrest''⟩ := trodAll_cons hrest'; obtain ⟨v3, vs3, d3, ds4, p3, q3, rfl, rfl, rfl, hd3, hrest3⟩ := trodAll_cons hrest''; obtain ⟨rfl, rfl, rfl⟩ := trodAll_nil hrest3; exact ⟨v, v', v'', v3, d, d', d'', d3, p, p', p'', p3, by cases args; simp_all, rfl, by simp, hd, hd', hd'', hd3⟩
theorem opensSpan : Opens Tryz.prog 136 (tInt.pair tInt) := opens_struct Tryz.underlying136 (by kernel_rfl) (.cons rfl (by kernel_rfl) (opens_int Tryz.underlying3) (.one rfl (by kernel_rfl) (opens_int Tryz.underlying3)))
theorem opensOw : OpensW Tryz.prog 138 (tOw.sub fun o => o.plt.size ≤ reachBytes) :=
 (opensW_struct (T := tStr.pair ((tStr.sub fun s => s.size ≤ reachBytes).pair (tInt.pair tInt))) Tryz.underlying138 (by kernel_rfl) (.cons rfl (by kernel_rfl) (Opens.sized (opens_str Tryz.underlying9)) (.cons rfl (by kernel_rfl) (opensW_str Tryz.underlying9) (.one rfl (by kernel_rfl) (Opens.sized opensSpan))))).mono fun w cs x h => by
  obtain ⟨tag, plt, fr, tt⟩ := x; obtain ⟨_, _, rfl, h1, _, _, rfl, ⟨h2, h3⟩, h4⟩ := h; exact ⟨⟨tag, plt, fr, tt⟩, ⟨_, _, rfl, h1, _, _, rfl, h2, h4⟩, h3⟩
theorem opensRefill : Opens Tryz.prog 94 (tInt.pair (tInt.pair (tInt.pair tInt))) := opens_struct Tryz.underlying94 (by kernel_rfl) (.cons rfl (by kernel_rfl) (opens_int Tryz.underlying3) (.cons rfl (by kernel_rfl) (opens_int Tryz.underlying3) (.cons rfl (by kernel_rfl) (opens_int Tryz.underlying3) (.one rfl (by kernel_rfl) (opens_int Tryz.underlying3)))))
theorem opensAcc : OpensW Tryz.prog 96 ((tAcc 138).sub fun a => PltOk a.ow) :=
 (opensW_struct (T := tStr.pair (tStr.pair (tBool.pair ((((tOw.sub fun o => o.plt.size ≤ reachBytes).list 138).sub fun l => l.length ≤ reachBytes).pair ((tInt.pair (tInt.pair (tInt.pair tInt))).pair tBool))))) Tryz.underlying96 (by kernel_rfl)
  (.cons rfl (by kernel_rfl) (Opens.sized (opens_str Tryz.underlying9)) (.cons rfl (by kernel_rfl) (Opens.sized (opens_str Tryz.underlying9)) (.cons rfl (by kernel_rfl) (Opens.sized (opens_bool Tryz.underlying4)) (.cons rfl (by kernel_rfl) (opensW_slice Tryz.underlying92 (by kernel_rfl) (by decide) (of_decide_eq_true (by kernel_rfl)) opensOw) (.cons rfl (by kernel_rfl) (Opens.sized opensRefill) (.one rfl (by kernel_rfl) (Opens.sized (opens_bool Tryz.underlying4))))))))).mono fun w cs x h => by
  obtain ⟨nm, ag, pre, ow, ⟨r1, r2, r3, r4⟩, ex⟩ := x; obtain ⟨_, _, rfl, h1, _, _, rfl, h2, _, _, rfl, h3, _, _, rfl, ⟨⟨v, rfl, h4⟩, -⟩, _, _, rfl, ⟨_, _, rfl, h5, _, _, rfl, h6, _, _, rfl, h7, h8⟩, h9⟩ := h; obtain ⟨g1, g2⟩ := h4.ofSub; exact ⟨⟨nm, ag, pre, ow, r1, r2, r3, r4, ex⟩, ⟨_, _, rfl, h1, _, _, rfl, h2, _, _, rfl, h3, _, _, rfl, ⟨v, rfl, g1⟩, _, _, by simp only [List.append_assoc], h5, _, _, rfl, h6, _, _, rfl, h7, _, _, rfl, h8, h9⟩, fun o ho => g2 o ho⟩
theorem opensAccs : OpensW Tryz.prog 40 ((((tAcc 138).sub fun a => PltOk a.ow).list 96).sub fun l => l.length ≤ reachBytes) := opensW_slice Tryz.underlying40 (by kernel_rfl) (by decide) (of_decide_eq_true (by kernel_rfl)) opensAcc
set_option maxRecDepth 100000 in
theorem arg_cfg {H : Type} {enc : TypeId × Value → H} {w : World} {r : Reach} {b0 : Nat} {v : Value} {d : DataW H} {ps : List MemPlace} {ts : List TypeId} {ds : List (DataW H)} {j : Nat}
  (hval : Value.okWide Tryz.prog w r b0 46 v) (hd : DataW.Trod enc Tryz.prog w 0 (fun _ => true) true 46 v d ps)
  (hz : (DataW.weightsEach Tryz.prog ts ds).all (· ≤ reachBytes) = true) (htj : ts[j]? = some 46) (hdj : ds[j]? = some d) :
  ∃ A ao n c l, v = .agg A ∧ CfgA A (.slice ao n c) ∧ SlIs (tAcc 138) (· < w.heap.size) w (.slice ao n c) l ∧ ∀ a ∈ l, PltOk a.ow := by
 obtain ⟨cs, l, rfl, hsz, ⟨va, hva, hl⟩, -⟩ := arg_fieldW Tryz.underlying46 (i := 12) rfl opensAccs hval hd hz htj hdj; obtain ⟨g1, g2⟩ := hl.ofSub; obtain ⟨ao, c, _, _, rfl, -⟩ := id g1; refine ⟨cs, ao, _, c, l, rfl, ⟨hsz.trans (by kernel_rfl), ?_⟩, g1, g2⟩; have h17 : (cs.toList.drop 17).take 1 = [.slice ao l.length c] := hva; have := congrArg (fun x : List Value => x[0]?) h17
 simpa using this
end Go.Proofs.YtifcelebfagjbaaGreatDoor
